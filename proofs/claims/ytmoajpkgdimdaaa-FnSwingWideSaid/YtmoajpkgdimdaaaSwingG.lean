/- Swings: the first number that is 0, that has a small part; the reference, which turns a wide number beside it. -/
import Derived.Test.YtmoajpkgdimdaaaSwingF
namespace Go.Proofs.Ytmoajpkgdimdaaa
open Go.RowKit

theorem sub64_some {x : Nat} (h : NN64 x) : ∃ y, Ieee.double.sub 0 x = some y ∧ NN64 y := by
  have h1 : Ieee.double.read 0 = .number false 0 (-1074) := by decide +kernel
  have h2 := nn64_read h
  unfold Ieee.Format.sub
  rw [h1]
  generalize Ieee.double.read x = d at h2
  cases d with
  | nan s t => cases h2
  | infinity s => exact ⟨_, rfl, write64_nn rfl⟩
  | number s m e => exact ⟨_, rfl, write64_nn rfl⟩
theorem half64_some {x : Nat} (h : NN64 x) : ∃ y, Ieee.double.div x 4611686018427387904 = some y ∧ NN64 y := by
  have h1 : Ieee.double.read 4611686018427387904 = .number false 4503599627370496 (-51) := by decide +kernel
  have h2 := nn64_read h
  unfold Ieee.Format.div
  rw [h1]
  generalize Ieee.double.read x = d at h2
  cases d with
  | nan s t => cases h2
  | infinity s => exact ⟨_, rfl, write64_nn rfl⟩
  | number s m e =>
    simp only [Ieee.Datum.quotient]
    rw [if_neg (by omega)]
    exact ⟨_, rfl, write64_nn rfl⟩
def sub64 (x : Nat) : Nat := (Ieee.double.sub 0 x).getD 0
def half64 (x : Nat) : Nat := (Ieee.double.div x 4611686018427387904).getD 0
theorem sub64_nn {x : Nat} (h : NN64 x) : NN64 (sub64 x) := by obtain ⟨y, h1, h2⟩ := sub64_some h; unfold sub64; rw [h1]; exact h2
theorem half64_nn {x : Nat} (h : NN64 x) : NN64 (half64 x) := by obtain ⟨y, h1, h2⟩ := half64_some h; unfold half64; rw [h1]; exact h2
theorem run_sub64 {P : Program} (w : World) (T : TypeId) {x : Nat} (h : NN64 x) : (binOp .sub T (.float .f64 0) (.float .f64 x)).run P w = .ok (.float .f64 (sub64 x)) w := by
  obtain ⟨y, h1, h2⟩ := sub64_some h
  have e : sub64 x = y := by unfold sub64; rw [h1]; rfl
  rw [e]; exact run_float_arith w .sub T .f64 0 x y h1
theorem run_half64 {P : Program} (w : World) (T : TypeId) {x : Nat} (h : NN64 x) : (binOp .quo T (.float .f64 x) (.float .f64 4611686018427387904)).run P w = .ok (.float .f64 (half64 x)) w := by
  obtain ⟨y, h1, h2⟩ := half64_some h
  have e : half64 x = y := by unfold half64; rw [h1]; rfl
  rw [e]; exact run_float_arith w .quo T .f64 x _ y h1
def NNW (z : Z2) : Prop := NN64 z.1 ∧ NN64 z.2
abbrev wv (z : Z2) : Value := .complex .f64 z.1 z.2
def tuW (z : Z2) : Z2 := (sub64 z.2, z.1)
def haW (z : Z2) : Z2 := (half64 z.1, half64 z.2)
def stW (t s : Nat) (z : Z2) : Z2 := itr haW s (itr tuW t z)
theorem itr_nnw {f : Z2 → Z2} (hf : ∀ z, NNW z → NNW (f z)) {z : Z2} (h : NNW z) : ∀ k, NNW (itr f k z)
  | 0 => h
  | k + 1 => hf _ (itr_nnw hf h k)
theorem tuW_nn {z : Z2} (h : NNW z) : NNW (tuW z) := ⟨sub64_nn h.2, h.1⟩
theorem haW_nn {z : Z2} (h : NNW z) : NNW (haW z) := ⟨half64_nn h.1, half64_nn h.2⟩
theorem stW_nn {t s : Nat} {z : Z2} (h : NNW z) : NNW (stW t s z) := itr_nnw (fun _ => haW_nn) (itr_nnw (fun _ => tuW_nn) h t) s
def nmW (t s : Nat) (z : Z2) (k : Nat) : Z2 := itr (stW t s) k z
theorem nmW_nn {t s : Nat} {z : Z2} (h : NNW z) (k : Nat) : NNW (nmW t s z k) := itr_nnw (fun _ => stW_nn) h k
set_option maxRecDepth 100000 in
set_option maxHeartbeats 1000000 in
theorem l11Wide_any (x0 y0 t s : Nat) (z : Z2) (hz : NNW z) (ht : t ≤ 3) (hs : s ≤ 4) (w : World) :
    Calls Try.prog 20 #[wv z, swv x0 y0 t s] w fun e w' => e = .returned (wv (stW t s z)) ∧ Below w.heap.size w w' := by
  have HZ := Lib.hid hz
  clear hz
  go_enter Try.func20, Try.ntmps20
  go_wp2
  go_loop [0, 5] (fun a i => ∃ k : Nat, k ≤ t ∧ i = .int .i64 k ∧ a = .complex .f64 (itr tuW k z).1 (itr tuW k z).2) (fun _ i => t - (intOf i).toNat)
  case atStart => exact ⟨0, by omega, rfl, rfl⟩
  case round =>
    obtain ⟨k, hk, rfl, rfl⟩ := hrel
    by_cases hlt : k < t
    · have hf := itr_nnw (fun _ => tuW_nn) HZ.out k
      have r1 := fun w => run_sub64 (P := Try.prog) w 43 hf.2
      clear hf
      go_wp2
      go_round
      case rel => exact ⟨k + 1, by omega, by go_num, rfl⟩
      case measure => simp [intOf]; omega
    · obtain rfl : k = t := by omega
      go_wp2
      go_loop [0, 6] (fun a i => ∃ j : Nat, j ≤ s ∧ i = .int .i64 j ∧ a = .complex .f64 (itr haW j (itr tuW k z)).1 (itr haW j (itr tuW k z)).2) (fun _ i => s - (intOf i).toNat)
      case atStart => exact ⟨0, by omega, rfl, rfl⟩
      case round =>
        obtain ⟨j, hj, rfl, rfl⟩ := hrel
        by_cases hltj : j < s
        · have hf := itr_nnw (fun _ => haW_nn) (itr_nnw (fun _ => tuW_nn) HZ.out k) j
          have r1 := fun w => run_half64 (P := Try.prog) w 43 hf.1
          have r2 := fun w => run_half64 (P := Try.prog) w 43 hf.2
          clear hf
          go_wp2
          go_round
          case rel => exact ⟨j + 1, by omega, by go_num, rfl⟩
          case measure => simp [intOf]; omega
        · obtain rfl : j = s := by omega
          go_wp2
          go_ret
          exact ⟨rfl, by repeat' (first | (with_reducible exact Below.refl _ _) | (with_reducible assumption) | (with_reducible refine Below.alloc ?_ ?_ _) | (with_reducible refine below_more ?_ ?_ _ _) | (with_reducible refine below_rd ?_ ?_ _ _) | (with_reducible refine Below.drew ?_) | (with_reducible refine Below.setCell ?_ ?_ _) | go_size)⟩
def toW (z : Z2) : Z2 := (to64 z.1, to64 z.2)
theorem toW_nn {z : Z2} (h : FinZ z) : NNW (toW z) := ⟨(to64_some h.1.nn).2, (to64_some h.2.nn).2⟩
theorem pTiny_split {z : Z2} : pTiny z = (tinyB z.1 || tinyB z.2) := rfl
set_option maxRecDepth 100000 in
set_option maxHeartbeats 4000000 in
theorem specFirstZero_yes (z : Z2) (t s : Nat) (hz : FinZ z) (ht : t ≤ 3) (hs : s ≤ 4) (hok : swOk z.1 z.2 t s = true) (w : World) :
    Calls Try.prog 31 #[swv z.1 z.2 t s, .int .i64 0] w fun e w' => e = .returned (.tuple #[.int .i64 (fsF (fun k => pZero (nmZ t s z k)) 401 0), .bool true]) ∧ Below w.heap.size w w' := by
  have r0 := fun w => run_to128 w hz.1.nn hz.2.nn
  have HZ := Lib.hid hz
  clear hz
  go_enter Try.func31, Try.ntmps31
  go_wp2_with (go_at_call 18; refine (specSwingValid_any _ _ _ _ HZ.out.1.1 HZ.out.2.1 _).mono ?_; rintro e w' ⟨rfl, hb⟩; obtain ⟨os, d, rfl⟩ := more_of_below hb; clear hb)
  obtain ⟨w0, rfl⟩ : ∃ w0 : World, w0 = w := ⟨_, rfl⟩
  go_loopw [6, 7, 8] (fun a b i wr => ∃ k : Nat, k ≤ 401 ∧ i = .int .i64 k ∧ a = .complex .f32 (nmZ t s z k).1 (nmZ t s z k).2 ∧ b = .complex .f64 (nmW t s (toW z) k).1 (nmW t s (toW z) k).2 ∧ Hid (fsF (fun k => pZero (nmZ t s z k)) 401 0 = fsF (fun k => pZero (nmZ t s z k)) (401 - k) k) ∧ ∃ os d, wr = more (w0.alloc (.cells #[.complex .f32 z.1 z.2, .int .i64 t, .int .i64 s] 25)) os d) (fun _ _ i _ => 401 - (intOf i).toNat)
  case atStart => exact ⟨0, by omega, rfl, rfl, rfl, rfl, _, _, rfl⟩
  case round =>
    obtain ⟨k, hk, rfl, rfl, rfl, hF, os, d, rfl⟩ := hrel
    by_cases hlt : k ≤ 400
    · have hm : 401 - k = (401 - (k + 1)) + 1 := by omega
      have HFz := Lib.hid (nmZ_fin (t := t) (s := s) HZ.out k)
      have HFw := Lib.hid (nmW_nn (t := t) (s := s) (toW_nn HZ.out) k)
      have r1 := fun w => run_to128 w HFz.out.1.nn HFz.out.2.nn
      rcases Bool.eq_false_or_eq_true (pZero (nmZ t s z k)) with hp | hp
      · have HF := Lib.hid (hF.out.trans ((congrArg (fun m => fsF (fun k => pZero (nmZ t s z k)) m k) hm).trans (fsF_yes hp)))
        clear hF
        have hp' := hp
        simp only [pZero,  zeroB] at hp'
        rcases Bool.eq_false_or_eq_true (tinyB (nmZ t s z k).1) with ht1 | ht1
        all_goals
          try rw [ht1, Bool.false_or] at hp'
          go_wp2_with (go_at_call 57; refine (l11Tiny_any _ _).mono ?_; rintro e w' ⟨rfl, rfl⟩)
          go_returns
          exact ⟨by rw [HF.out]; rfl, by repeat' (first | (with_reducible exact Below.refl _ _) | (with_reducible assumption) | (with_reducible refine Below.alloc ?_ ?_ _) | (with_reducible refine below_more ?_ ?_ _ _) | (with_reducible refine below_rd ?_ ?_ _ _) | (with_reducible refine Below.drew ?_) | (with_reducible refine Below.setCell ?_ ?_ _) | go_size)⟩
      · have HF := Lib.hid (hF.out.trans ((congrArg (fun m => fsF (fun k => pZero (nmZ t s z k)) m k) hm).trans (fsF_no hp)))
        clear hF
        have hp' := hp
        simp only [pZero,  zeroB] at hp'
        try obtain ⟨ht1, ht2⟩ := hp'
        go_wp2_with (first
          | (go_at_call 57; refine (l11Tiny_any _ _).mono ?_; rintro e w' ⟨rfl, rfl⟩)
          | (go_at_call 58; refine (l11Single_any _ _ t s (nmZ t s z k) HFz.out ht hs _).mono ?_; rintro e w' ⟨rfl, hb⟩; obtain ⟨os, d, rfl⟩ := more_of_below hb; clear hb)
          | (go_at_call 20; refine (l11Wide_any _ _ t s (nmW t s (toW z) k) HFw.out ht hs _).mono ?_; rintro e w' ⟨rfl, hb⟩; obtain ⟨os, d, rfl⟩ := more_of_below hb; clear hb))
        go_roundw
        case rel => exact ⟨k + 1, by omega, by go_num, rfl, rfl, HF, _, _, rfl⟩
        case measure => simp [intOf]; omega
    · obtain rfl : k = 401 := by omega
      have HF := Lib.hid (show fsF (fun k => pZero (nmZ t s z k)) 401 0 = -1 from hF.out)
      clear hF
      go_wp2
      go_returns
      exact ⟨by rw [HF.out]; rfl, by repeat' (first | (with_reducible exact Below.refl _ _) | (with_reducible assumption) | (with_reducible refine Below.alloc ?_ ?_ _) | (with_reducible refine below_more ?_ ?_ _ _) | (with_reducible refine below_rd ?_ ?_ _ _) | (with_reducible refine Below.drew ?_) | (with_reducible refine Below.setCell ?_ ?_ _) | go_size)⟩
set_option maxRecDepth 100000 in
set_option maxHeartbeats 4000000 in
theorem specFirstTiny_yes (z : Z2) (t s : Nat) (hz : FinZ z) (ht : t ≤ 3) (hs : s ≤ 4) (hok : swOk z.1 z.2 t s = true) (w : World) :
    Calls Try.prog 31 #[swv z.1 z.2 t s, .int .i64 1] w fun e w' => e = .returned (.tuple #[.int .i64 (fsF (fun k => pTiny (nmZ t s z k)) 401 0), .bool true]) ∧ Below w.heap.size w w' := by
  have r0 := fun w => run_to128 w hz.1.nn hz.2.nn
  have HZ := Lib.hid hz
  clear hz
  go_enter Try.func31, Try.ntmps31
  go_wp2_with (go_at_call 18; refine (specSwingValid_any _ _ _ _ HZ.out.1.1 HZ.out.2.1 _).mono ?_; rintro e w' ⟨rfl, hb⟩; obtain ⟨os, d, rfl⟩ := more_of_below hb; clear hb)
  obtain ⟨w0, rfl⟩ : ∃ w0 : World, w0 = w := ⟨_, rfl⟩
  go_loopw [6, 7, 8] (fun a b i wr => ∃ k : Nat, k ≤ 401 ∧ i = .int .i64 k ∧ a = .complex .f32 (nmZ t s z k).1 (nmZ t s z k).2 ∧ b = .complex .f64 (nmW t s (toW z) k).1 (nmW t s (toW z) k).2 ∧ Hid (fsF (fun k => pTiny (nmZ t s z k)) 401 0 = fsF (fun k => pTiny (nmZ t s z k)) (401 - k) k) ∧ ∃ os d, wr = more (w0.alloc (.cells #[.complex .f32 z.1 z.2, .int .i64 t, .int .i64 s] 25)) os d) (fun _ _ i _ => 401 - (intOf i).toNat)
  case atStart => exact ⟨0, by omega, rfl, rfl, rfl, rfl, _, _, rfl⟩
  case round =>
    obtain ⟨k, hk, rfl, rfl, rfl, hF, os, d, rfl⟩ := hrel
    by_cases hlt : k ≤ 400
    · have hm : 401 - k = (401 - (k + 1)) + 1 := by omega
      have HFz := Lib.hid (nmZ_fin (t := t) (s := s) HZ.out k)
      have HFw := Lib.hid (nmW_nn (t := t) (s := s) (toW_nn HZ.out) k)
      have r1 := fun w => run_to128 w HFz.out.1.nn HFz.out.2.nn
      rcases Bool.eq_false_or_eq_true (pTiny (nmZ t s z k)) with hp | hp
      · have HF := Lib.hid (hF.out.trans ((congrArg (fun m => fsF (fun k => pTiny (nmZ t s z k)) m k) hm).trans (fsF_yes hp)))
        clear hF
        have hp' := hp
        simp only [pTiny] at hp'
        rcases Bool.eq_false_or_eq_true (tinyB (nmZ t s z k).1) with ht1 | ht1
        all_goals
          try rw [ht1, Bool.false_or] at hp'
          go_wp2_with (go_at_call 57; refine (l11Tiny_any _ _).mono ?_; rintro e w' ⟨rfl, rfl⟩)
          go_returns
          exact ⟨by rw [HF.out]; rfl, by repeat' (first | (with_reducible exact Below.refl _ _) | (with_reducible assumption) | (with_reducible refine Below.alloc ?_ ?_ _) | (with_reducible refine below_more ?_ ?_ _ _) | (with_reducible refine below_rd ?_ ?_ _ _) | (with_reducible refine Below.drew ?_) | (with_reducible refine Below.setCell ?_ ?_ _) | go_size)⟩
      · have HF := Lib.hid (hF.out.trans ((congrArg (fun m => fsF (fun k => pTiny (nmZ t s z k)) m k) hm).trans (fsF_no hp)))
        clear hF
        have hp' := hp
        simp only [pTiny,  Bool.or_eq_false_iff] at hp'
        try obtain ⟨ht1, ht2⟩ := hp'
        go_wp2_with (first
          | (go_at_call 57; refine (l11Tiny_any _ _).mono ?_; rintro e w' ⟨rfl, rfl⟩)
          | (go_at_call 58; refine (l11Single_any _ _ t s (nmZ t s z k) HFz.out ht hs _).mono ?_; rintro e w' ⟨rfl, hb⟩; obtain ⟨os, d, rfl⟩ := more_of_below hb; clear hb)
          | (go_at_call 20; refine (l11Wide_any _ _ t s (nmW t s (toW z) k) HFw.out ht hs _).mono ?_; rintro e w' ⟨rfl, hb⟩; obtain ⟨os, d, rfl⟩ := more_of_below hb; clear hb))
        go_roundw
        case rel => exact ⟨k + 1, by omega, by go_num, rfl, rfl, HF, _, _, rfl⟩
        case measure => simp [intOf]; omega
    · obtain rfl : k = 401 := by omega
      have HF := Lib.hid (show fsF (fun k => pTiny (nmZ t s z k)) 401 0 = -1 from hF.out)
      clear hF
      go_wp2
      go_returns
      exact ⟨by rw [HF.out]; rfl, by repeat' (first | (with_reducible exact Below.refl _ _) | (with_reducible assumption) | (with_reducible refine Below.alloc ?_ ?_ _) | (with_reducible refine below_more ?_ ?_ _ _) | (with_reducible refine below_rd ?_ ?_ _ _) | (with_reducible refine Below.drew ?_) | (with_reducible refine Below.setCell ?_ ?_ _) | go_size)⟩

/-- What SwingRest and SwingSmall give. -/
def frV (p : Z2 → Bool) (z : Z2) (t s : Int) : Int := if swOk z.1 z.2 t s = true then fsF (fun k => p (nmZ t.toNat s.toNat z k)) 401 0 else 0
set_option maxRecDepth 100000 in
set_option maxHeartbeats 1000000 in
theorem specFirstZero_any (z : Z2) (t s : Int) (h1 : z.1 < 4294967296) (h2 : z.2 < 4294967296) (w : World) :
    Calls Try.prog 31 #[swv z.1 z.2 t s, .int .i64 0] w fun e w' => e = .returned (.tuple #[.int .i64 (frV pZero z t s), .bool (swOk z.1 z.2 t s)]) ∧ Below w.heap.size w w' := by
  rcases Bool.eq_false_or_eq_true (swOk z.1 z.2 t s) with hv | hv
  · obtain ⟨hz, t', s', rfl, rfl, ht, hs⟩ := swOk_get h1 h2 hv
    rw [hv, show frV pZero z (t' : Int) (s' : Int) = fsF (fun k => pZero (nmZ t' s' z k)) 401 0 by rw [frV, if_pos hv]; rfl]
    exact specFirstZero_yes z t' s' hz ht hs hv w
  · have HO := Lib.hid (show frV pZero z t s = 0 by rw [frV, hv]; rfl)
    go_enter Try.func31, Try.ntmps31
    go_wp2_with (go_at_call 18; refine (specSwingValid_any _ _ _ _ h1 h2 _).mono ?_; rintro e w' ⟨rfl, hb⟩; obtain ⟨os, d, rfl⟩ := more_of_below hb; clear hb)
    go_returns
    exact ⟨by rw [HO.out, hv]; rfl, by repeat' (first | (with_reducible exact Below.refl _ _) | (with_reducible assumption) | (with_reducible refine Below.alloc ?_ ?_ _) | (with_reducible refine below_more ?_ ?_ _ _) | (with_reducible refine below_rd ?_ ?_ _ _) | (with_reducible refine Below.drew ?_) | (with_reducible refine Below.setCell ?_ ?_ _) | go_size)⟩
set_option maxRecDepth 100000 in
set_option maxHeartbeats 1000000 in
theorem specFirstTiny_any (z : Z2) (t s : Int) (h1 : z.1 < 4294967296) (h2 : z.2 < 4294967296) (w : World) :
    Calls Try.prog 31 #[swv z.1 z.2 t s, .int .i64 1] w fun e w' => e = .returned (.tuple #[.int .i64 (frV pTiny z t s), .bool (swOk z.1 z.2 t s)]) ∧ Below w.heap.size w w' := by
  rcases Bool.eq_false_or_eq_true (swOk z.1 z.2 t s) with hv | hv
  · obtain ⟨hz, t', s', rfl, rfl, ht, hs⟩ := swOk_get h1 h2 hv
    rw [hv, show frV pTiny z (t' : Int) (s' : Int) = fsF (fun k => pTiny (nmZ t' s' z k)) 401 0 by rw [frV, if_pos hv]; rfl]
    exact specFirstTiny_yes z t' s' hz ht hs hv w
  · have HO := Lib.hid (show frV pTiny z t s = 0 by rw [frV, hv]; rfl)
    go_enter Try.func31, Try.ntmps31
    go_wp2_with (go_at_call 18; refine (specSwingValid_any _ _ _ _ h1 h2 _).mono ?_; rintro e w' ⟨rfl, hb⟩; obtain ⟨os, d, rfl⟩ := more_of_below hb; clear hb)
    go_returns
    exact ⟨by rw [HO.out, hv]; rfl, by repeat' (first | (with_reducible exact Below.refl _ _) | (with_reducible assumption) | (with_reducible refine Below.alloc ?_ ?_ _) | (with_reducible refine below_more ?_ ?_ _ _) | (with_reducible refine below_rd ?_ ?_ _ _) | (with_reducible refine Below.drew ?_) | (with_reducible refine Below.setCell ?_ ?_ _) | go_size)⟩
set_option maxRecDepth 100000 in
set_option maxHeartbeats 1000000 in
theorem swingSmall_any (z : Z2) (t s : Int) (h1 : z.1 < 4294967296) (h2 : z.2 < 4294967296) (w : World) :
    Calls Try.prog 13 #[swv z.1 z.2 t s] w fun e w' => e = .returned (.tuple #[.int .i64 (frV pTiny z t s), .bool (swOk z.1 z.2 t s)]) ∧ Below w.heap.size w w' := by
  rcases Bool.eq_false_or_eq_true (swOk z.1 z.2 t s) with hv | hv
  · obtain ⟨hz, t', s', rfl, rfl, ht, hs⟩ := swOk_get h1 h2 hv
    have HO := Lib.hid (show frV pTiny z (t' : Int) (s' : Int) = fsF (fun k => pTiny (nmZ t' s' z k)) 401 0 by rw [frV, if_pos hv]; rfl)
    have HZ := Lib.hid hz
    clear hz
    go_enter Try.func13, Try.ntmps13
    go_wp2_with (first
      | (go_at_call 15; refine (swingValid_any _ _ _ _ _).mono ?_; rintro e w' ⟨rfl, hb⟩; obtain ⟨os, d, rfl⟩ := more_of_below hb; clear hb)
      | (go_at_call 32; refine (firstTiny_any z t' s' HZ.out ht hs _).mono ?_; rintro e w' ⟨rfl, hb⟩; obtain ⟨os, d, rfl⟩ := more_of_below hb; clear hb))
    go_returns
    exact ⟨by rw [HO.out, hv]; rfl, by repeat' (first | (with_reducible exact Below.refl _ _) | (with_reducible assumption) | (with_reducible refine Below.alloc ?_ ?_ _) | (with_reducible refine below_more ?_ ?_ _ _) | (with_reducible refine below_rd ?_ ?_ _ _) | (with_reducible refine Below.drew ?_) | (with_reducible refine Below.setCell ?_ ?_ _) | go_size)⟩
  · have HO := Lib.hid (show frV pTiny z t s = 0 by rw [frV, hv]; rfl)
    go_enter Try.func13, Try.ntmps13
    go_wp2_with (go_at_call 15; refine (swingValid_any _ _ _ _ _).mono ?_; rintro e w' ⟨rfl, hb⟩; obtain ⟨os, d, rfl⟩ := more_of_below hb; clear hb)
    go_returns
    exact ⟨by rw [HO.out, hv]; rfl, by repeat' (first | (with_reducible exact Below.refl _ _) | (with_reducible assumption) | (with_reducible refine Below.alloc ?_ ?_ _) | (with_reducible refine below_more ?_ ?_ _ _) | (with_reducible refine below_rd ?_ ?_ _ _) | (with_reducible refine Below.drew ?_) | (with_reducible refine Below.setCell ?_ ?_ _) | go_size)⟩

end Go.Proofs.Ytmoajpkgdimdaaa
