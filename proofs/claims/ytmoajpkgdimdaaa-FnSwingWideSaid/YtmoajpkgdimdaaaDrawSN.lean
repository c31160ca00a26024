/- SwingWide, both: the wide number k. The reference's draws of swings with a number. -/
import Derived.Test.YtmoajpkgdimdaaaSwingG
import Derived.Test.YtmoajpkgdimdaaaDrawS
section -- a part
namespace Go.Proofs.Ytmoajpkgdimdaaa
open Go.RowKit

set_option maxRecDepth 100000 in
set_option maxHeartbeats 1000000 in
theorem wideStep_any (x0 y0 t s : Nat) (z : Z2) (hz : NNW z) (ht : t ≤ 3) (hs : s ≤ 4) (w : World) :
    Calls Try.prog 17 #[swv x0 y0 t s, wv z] w fun e w' => e = .returned (wv (stW t s z)) ∧ Below w.heap.size w w' := by
  have HZ := Lib.hid hz
  clear hz
  go_enter Try.func17, Try.ntmps17
  go_wp2
  go_loop [5, 6, 13] (fun a b i => ∃ k : Nat, k ≤ t ∧ i = .int .i64 k ∧ a = .float .f64 (itr tuW k z).1 ∧ b = .float .f64 (itr tuW k z).2) (fun _ _ i => t - (intOf i).toNat)
  case atStart => exact ⟨0, by omega, rfl, rfl, rfl⟩
  case round =>
    obtain ⟨k, hk, rfl, rfl, rfl⟩ := hrel
    by_cases hlt : k < t
    · have hf := itr_nnw (fun _ => tuW_nn) HZ.out k
      have r1 := fun w => run_sub64 (P := Try.prog) w 43 hf.2
      clear hf
      go_wp2
      go_round
      case rel => exact ⟨k + 1, by omega, by go_num, rfl, rfl⟩
      case measure => simp [intOf]; omega
    · obtain rfl : k = t := by omega
      go_wp2
      go_loop [5, 6, 21] (fun a b i => ∃ j : Nat, j ≤ s ∧ i = .int .i64 j ∧ a = .float .f64 (itr haW j (itr tuW k z)).1 ∧ b = .float .f64 (itr haW j (itr tuW k z)).2) (fun _ _ i => s - (intOf i).toNat)
      case atStart => exact ⟨0, by omega, rfl, rfl, rfl⟩
      case round =>
        obtain ⟨j, hj, rfl, rfl, rfl⟩ := hrel
        by_cases hltj : j < s
        · have hf := itr_nnw (fun _ => haW_nn) (itr_nnw (fun _ => tuW_nn) HZ.out k) j
          have r1 := fun w => run_half64 (P := Try.prog) w 43 hf.1
          have r2 := fun w => run_half64 (P := Try.prog) w 43 hf.2
          clear hf
          go_wp2
          go_round
          case rel => exact ⟨j + 1, by omega, by go_num, rfl, rfl⟩
          case measure => simp [intOf]; omega
        · obtain rfl : j = s := by omega
          go_wp2
          go_ret
          exact ⟨rfl, by repeat' (first | (with_reducible exact Below.refl _ _) | (with_reducible assumption) | (with_reducible refine Below.alloc ?_ ?_ _) | (with_reducible refine below_more ?_ ?_ _ _) | (with_reducible refine below_rd ?_ ?_ _ _) | (with_reducible refine Below.drew ?_) | (with_reducible refine Below.setCell ?_ ?_ _) | go_size)⟩
/-- What SwingWide gives. -/
def swW (z : Z2) (t s k : Int) : Z2 := if saOk z t s k = true then nmW t.toNat s.toNat (toW z) k.toNat else (0, 0)
set_option maxRecDepth 100000 in
set_option maxHeartbeats 1000000 in
theorem swingWide_yes (z : Z2) (t s k : Nat) (hz : FinZ z) (ht : t ≤ 3) (hs : s ≤ 4) (hk : k ≤ 400) (hok : swOk z.1 z.2 t s = true) (w : World) :
    Calls Try.prog 6 #[swv z.1 z.2 t s, .int .i64 k] w fun e w' => e = .returned (.tuple #[wv (nmW t s (toW z) k), .bool true]) ∧ Below w.heap.size w w' := by
  have hin : inB k 0 400 = true := inB_iff.2 ⟨by omega, by omega⟩
  have r0 := fun w => run_to128 w hz.1.nn hz.2.nn
  have HZ := Lib.hid hz
  clear hz
  go_enter Try.func6, Try.ntmps6
  go_wp2_with (first
    | (go_at_call 15; refine (swingValid_any _ _ _ _ _).mono ?_; rintro e w' ⟨rfl, hb⟩; obtain ⟨os, d, rfl⟩ := more_of_below hb; clear hb)
    | (go_at_call 16; refine (within_any _ _ _ _).mono ?_; rintro e w' ⟨rfl, rfl⟩))
  obtain ⟨w0, rfl⟩ : ∃ w0 : World, w0 = w := ⟨_, rfl⟩
  go_loopw [6, 19] (fun a i wr => ∃ j : Nat, j ≤ k ∧ i = .int .i64 j ∧ a = .complex .f64 (nmW t s (toW z) j).1 (nmW t s (toW z) j).2 ∧ ∃ os d, wr = more (w0.alloc (.cells #[.complex .f32 z.1 z.2, .int .i64 t, .int .i64 s] 25)) os d) (fun _ i _ => k - (intOf i).toNat)
  case atStart => exact ⟨0, by omega, rfl, rfl, _, _, rfl⟩
  case round =>
    obtain ⟨j, hj, rfl, rfl, os, d, rfl⟩ := hrel
    by_cases hlt : j < k
    · have HF := Lib.hid (nmW_nn (t := t) (s := s) (toW_nn HZ.out) j)
      go_wp2_with (go_at_call 17; refine (wideStep_any _ _ t s (nmW t s (toW z) j) HF.out ht hs _).mono ?_; rintro e w' ⟨rfl, hb⟩; obtain ⟨os, d, rfl⟩ := more_of_below hb; clear hb)
      go_roundw
      case rel => exact ⟨j + 1, by omega, by go_num, rfl, _, _, rfl⟩
      case measure => simp [intOf]; omega
    · obtain rfl : j = k := by omega
      go_wp2
      go_returns
      exact ⟨rfl, by repeat' (first | (with_reducible exact Below.refl _ _) | (with_reducible assumption) | (with_reducible refine Below.alloc ?_ ?_ _) | (with_reducible refine below_more ?_ ?_ _ _) | (with_reducible refine below_rd ?_ ?_ _ _) | (with_reducible refine Below.drew ?_) | (with_reducible refine Below.setCell ?_ ?_ _) | go_size)⟩
theorem swingWide_any (z : Z2) (t s k : Int) (h1 : z.1 < 4294967296) (h2 : z.2 < 4294967296) (w : World) :
    Calls Try.prog 6 #[swv z.1 z.2 t s, .int .i64 k] w fun e w' => e = .returned (.tuple #[wv (swW z t s k), .bool (saOk z t s k)]) ∧ Below w.heap.size w w' := by
  rcases Bool.eq_false_or_eq_true (swOk z.1 z.2 t s) with hv | hv
  · rcases Bool.eq_false_or_eq_true (inB k 0 400) with hk | hk
    · obtain ⟨hz, t', s', rfl, rfl, ht, hs⟩ := swOk_get h1 h2 hv
      have hk' := inB_iff.1 hk
      obtain ⟨k', rfl⟩ := Int.eq_ofNat_of_zero_le hk'.1
      have e : saOk z (t' : Int) (s' : Int) (k' : Int) = true := by rw [saOk, hv, hk]; rfl
      rw [e, show swW z (t' : Int) (s' : Int) (k' : Int) = nmW t' s' (toW z) k' by rw [swW, if_pos e]; rfl]
      exact swingWide_yes z t' s' k' hz ht hs (by omega) hv w
    · have HO := Lib.hid (show saOk z t s k = false ∧ swW z t s k = (0, 0) from by
        have e : saOk z t s k = false := by rw [saOk, hk, Bool.and_false]
        exact ⟨e, by rw [swW, e]; rfl⟩)
      go_enter Try.func6, Try.ntmps6
      go_wp2_with (first
        | (go_at_call 15; refine (swingValid_any _ _ _ _ _).mono ?_; rintro e w' ⟨rfl, hb⟩; obtain ⟨os, d, rfl⟩ := more_of_below hb; clear hb)
        | (go_at_call 16; refine (within_any _ _ _ _).mono ?_; rintro e w' ⟨rfl, rfl⟩))
      go_returns
      exact ⟨by rw [HO.out.1, HO.out.2]; rfl, by repeat' (first | (with_reducible exact Below.refl _ _) | (with_reducible assumption) | (with_reducible refine Below.alloc ?_ ?_ _) | (with_reducible refine below_more ?_ ?_ _ _) | (with_reducible refine below_rd ?_ ?_ _ _) | (with_reducible refine Below.drew ?_) | (with_reducible refine Below.setCell ?_ ?_ _) | go_size)⟩
  · have HO := Lib.hid (show saOk z t s k = false ∧ swW z t s k = (0, 0) from by
      have e : saOk z t s k = false := by rw [saOk, hv]; rfl
      exact ⟨e, by rw [swW, e]; rfl⟩)
    go_enter Try.func6, Try.ntmps6
    go_wp2_with (go_at_call 15; refine (swingValid_any _ _ _ _ _).mono ?_; rintro e w' ⟨rfl, hb⟩; obtain ⟨os, d, rfl⟩ := more_of_below hb; clear hb)
    go_returns
    exact ⟨by rw [HO.out.1, HO.out.2]; rfl, by repeat' (first | (with_reducible exact Below.refl _ _) | (with_reducible assumption) | (with_reducible refine Below.alloc ?_ ?_ _) | (with_reducible refine below_more ?_ ?_ _ _) | (with_reducible refine below_rd ?_ ?_ _ _) | (with_reducible refine Below.drew ?_) | (with_reducible refine Below.setCell ?_ ?_ _) | go_size)⟩
set_option maxRecDepth 100000 in
set_option maxHeartbeats 1000000 in
theorem specSwingWide_yes (z : Z2) (t s k : Nat) (hz : FinZ z) (ht : t ≤ 3) (hs : s ≤ 4) (hk : k ≤ 400) (hok : swOk z.1 z.2 t s = true) (w : World) :
    Calls Try.prog 7 #[swv z.1 z.2 t s, .int .i64 k] w fun e w' => e = .returned (.tuple #[wv (nmW t s (toW z) k), .bool true]) ∧ Below w.heap.size w w' := by
  have hin : inB k 0 400 = true := inB_iff.2 ⟨by omega, by omega⟩
  have r0 := fun w => run_to128 w hz.1.nn hz.2.nn
  have HZ := Lib.hid hz
  clear hz
  go_enter Try.func7, Try.ntmps7
  go_wp2_with (first
    | (go_at_call 18; refine (specSwingValid_any _ _ _ _ HZ.out.1.1 HZ.out.2.1 _).mono ?_; rintro e w' ⟨rfl, hb⟩; obtain ⟨os, d, rfl⟩ := more_of_below hb; clear hb)
    | (go_at_call 19; refine (l6In_any _ _ _ _).mono ?_; rintro e w' ⟨rfl, rfl⟩))
  obtain ⟨w0, rfl⟩ : ∃ w0 : World, w0 = w := ⟨_, rfl⟩
  go_loopw [6, 7] (fun a i wr => ∃ j : Nat, j ≤ k ∧ i = .int .i64 j ∧ a = .complex .f64 (nmW t s (toW z) j).1 (nmW t s (toW z) j).2 ∧ ∃ os d, wr = more (w0.alloc (.cells #[.complex .f32 z.1 z.2, .int .i64 t, .int .i64 s] 25)) os d) (fun _ i _ => k - (intOf i).toNat)
  case atStart => exact ⟨0, by omega, rfl, rfl, _, _, rfl⟩
  case round =>
    obtain ⟨j, hj, rfl, rfl, os, d, rfl⟩ := hrel
    by_cases hlt : j < k
    · have HF := Lib.hid (nmW_nn (t := t) (s := s) (toW_nn HZ.out) j)
      go_wp2_with (go_at_call 20; refine (l11Wide_any _ _ t s (nmW t s (toW z) j) HF.out ht hs _).mono ?_; rintro e w' ⟨rfl, hb⟩; obtain ⟨os, d, rfl⟩ := more_of_below hb; clear hb)
      go_roundw
      case rel => exact ⟨j + 1, by omega, by go_num, rfl, _, _, rfl⟩
      case measure => simp [intOf]; omega
    · obtain rfl : j = k := by omega
      go_wp2
      go_returns
      exact ⟨rfl, by repeat' (first | (with_reducible exact Below.refl _ _) | (with_reducible assumption) | (with_reducible refine Below.alloc ?_ ?_ _) | (with_reducible refine below_more ?_ ?_ _ _) | (with_reducible refine below_rd ?_ ?_ _ _) | (with_reducible refine Below.drew ?_) | (with_reducible refine Below.setCell ?_ ?_ _) | go_size)⟩
theorem specSwingWide_any (z : Z2) (t s k : Int) (h1 : z.1 < 4294967296) (h2 : z.2 < 4294967296) (w : World) :
    Calls Try.prog 7 #[swv z.1 z.2 t s, .int .i64 k] w fun e w' => e = .returned (.tuple #[wv (swW z t s k), .bool (saOk z t s k)]) ∧ Below w.heap.size w w' := by
  rcases Bool.eq_false_or_eq_true (swOk z.1 z.2 t s) with hv | hv
  · rcases Bool.eq_false_or_eq_true (inB k 0 400) with hk | hk
    · obtain ⟨hz, t', s', rfl, rfl, ht, hs⟩ := swOk_get h1 h2 hv
      have hk' := inB_iff.1 hk
      obtain ⟨k', rfl⟩ := Int.eq_ofNat_of_zero_le hk'.1
      have e : saOk z (t' : Int) (s' : Int) (k' : Int) = true := by rw [saOk, hv, hk]; rfl
      rw [e, show swW z (t' : Int) (s' : Int) (k' : Int) = nmW t' s' (toW z) k' by rw [swW, if_pos e]; rfl]
      exact specSwingWide_yes z t' s' k' hz ht hs (by omega) hv w
    · have HO := Lib.hid (show saOk z t s k = false ∧ swW z t s k = (0, 0) from by
        have e : saOk z t s k = false := by rw [saOk, hk, Bool.and_false]
        exact ⟨e, by rw [swW, e]; rfl⟩)
      go_enter Try.func7, Try.ntmps7
      go_wp2_with (first
        | (go_at_call 18; refine (specSwingValid_any _ _ _ _ h1 h2 _).mono ?_; rintro e w' ⟨rfl, hb⟩; obtain ⟨os, d, rfl⟩ := more_of_below hb; clear hb)
        | (go_at_call 19; refine (l6In_any _ _ _ _).mono ?_; rintro e w' ⟨rfl, rfl⟩))
      go_returns
      exact ⟨by rw [HO.out.1, HO.out.2]; rfl, by repeat' (first | (with_reducible exact Below.refl _ _) | (with_reducible assumption) | (with_reducible refine Below.alloc ?_ ?_ _) | (with_reducible refine below_more ?_ ?_ _ _) | (with_reducible refine below_rd ?_ ?_ _ _) | (with_reducible refine Below.drew ?_) | (with_reducible refine Below.setCell ?_ ?_ _) | go_size)⟩
  · have HO := Lib.hid (show saOk z t s k = false ∧ swW z t s k = (0, 0) from by
      have e : saOk z t s k = false := by rw [saOk, hv]; rfl
      exact ⟨e, by rw [swW, e]; rfl⟩)
    go_enter Try.func7, Try.ntmps7
    go_wp2_with (go_at_call 18; refine (specSwingValid_any _ _ _ _ h1 h2 _).mono ?_; rintro e w' ⟨rfl, hb⟩; obtain ⟨os, d, rfl⟩ := more_of_below hb; clear hb)
    go_returns
    exact ⟨by rw [HO.out.1, HO.out.2]; rfl, by repeat' (first | (with_reducible exact Below.refl _ _) | (with_reducible assumption) | (with_reducible refine Below.alloc ?_ ?_ _) | (with_reducible refine below_more ?_ ?_ _ _) | (with_reducible refine below_rd ?_ ?_ _ _) | (with_reducible refine Below.drew ?_) | (with_reducible refine Below.setCell ?_ ?_ _) | go_size)⟩
theorem swW_nn {z : Z2} {t s k : Int} (h1 : z.1 < 4294967296) (h2 : z.2 < 4294967296) : NNW (swW z t s k) := by
  unfold swW
  split
  · rename_i h
    have hv : swOk z.1 z.2 t s = true := by unfold saOk at h; simp only [Bool.and_eq_true] at h; exact h.1
    obtain ⟨hz, t', s', rfl, rfl, ht, hs⟩ := swOk_get h1 h2 hv
    exact nmW_nn (toW_nn hz) _
  · exact ⟨by unfold NN64; omega, by unfold NN64; omega⟩
end Go.Proofs.Ytmoajpkgdimdaaa
end
section -- a part
namespace Go.Proofs.Ytmoajpkgdimdaaa
open Go.RowKit
theorem div19 {k : Int} (h0 : 0 ≤ k) (h1 : k < 20) : k.tdiv 19 = (if k = 19 then 1 else 0) := by
  rw [Int.tdiv_eq_ediv_of_nonneg h0]; split <;> omega
def DrewSN (W : World) (e : Ending) (w' : World) : Prop := (∃ (x y : Nat) (t s k : Int), x < 4294967296 ∧ y < 4294967296 ∧ -1000 ≤ k ∧ k ≤ 1000 ∧ e = .returned (.tuple #[swv x y t s, .int .i64 k])) ∧ Below W.heap.size W w'
theorem DrewSN.mk {W w' : World} {x y : Nat} {t s k : Int} (hx : x < 4294967296) (hy : y < 4294967296) (h1 : -1000 ≤ k) (h2 : k ≤ 1000) (hb : Below W.heap.size W w') : DrewSN W (.returned (.tuple #[swv x y t s, .int .i64 k])) w' := ⟨⟨x, y, t, s, k, hx, hy, h1, h2, rfl⟩, hb⟩
theorem steps_bd {u v w : Int} (u0 : 0 ≤ u) (u1 : u < 200) (v0 : 0 ≤ v) (v1 : v < 20) (w0 : 0 ≤ w) (w1 : w < 20) :
    -1000 ≤ IntKind.i64.wrap (IntKind.i64.wrap (u - IntKind.i64.wrap (IntKind.i64.wrap (v.tdiv 19) * 201)) + IntKind.i64.wrap (IntKind.i64.wrap (w.tdiv 19) * 400)) ∧
    IntKind.i64.wrap (IntKind.i64.wrap (u - IntKind.i64.wrap (IntKind.i64.wrap (v.tdiv 19) * 201)) + IntKind.i64.wrap (IntKind.i64.wrap (w.tdiv 19) * 400)) ≤ 1000 := by
  rw [div19 v0 v1, div19 w0 w1]
  simp only [IntKind.wrap_i64]
  split <;> split <;> omega
theorem path_bd {u v : Int} (u0 : 0 ≤ u) (u1 : u < 20) (v0 : 0 ≤ v) (v1 : v < 20) :
    -1000 ≤ IntKind.i64.wrap (u + IntKind.i64.wrap (IntKind.i64.wrap (v.tdiv 19) * 90)) ∧ IntKind.i64.wrap (u + IntKind.i64.wrap (IntKind.i64.wrap (v.tdiv 19) * 90)) ≤ 1000 := by
  rw [div19 v0 v1]
  simp only [IntKind.wrap_i64]
  split <;> omega
set_option maxRecDepth 100000 in
set_option maxHeartbeats 4000000 in
theorem l92Steps_any (a : Option Addr) (len cap B : Nat) (W W0 : World) (hv : HasB W0 B a len) (hbel : Below B W0 W) (hB : B ≤ W.heap.size) (hl : len ≤ 1048576) (hc : len ≤ cap) :
    Calls Try.prog 14 #[.slice a len cap] W (DrewSN W) := by
  go_enter Try.func14, Try.ntmps14
  go_wp2_with (first | (go_at_call 30; refine (open_any _ _ _ _ hl hc).mono ?_; rintro e w' ⟨len', hl1, hl2, rfl, rfl⟩) | (go_at_call 29; refine (l92Swing_any _ W0 B _ a len' cap 0 (by (first | exact heap_alloc_at _ _ (by (first | omega | (simp; omega) | (simp; done))) | ((repeat (first | (refine (heap_alloc_past _ _ ?_).trans ?_; focus (first | omega | (simp; omega) | (simp; done))) | (refine (heap_more_past _ _ _ ?_).trans ?_; focus (first | omega | (simp; omega) | (simp; done))))); exact heap_rd_same (by (first | omega | (simp; omega) | (simp; done)))))) (hv.less hl1) (by repeat' (first | (with_reducible assumption) | (with_reducible exact Below.refl _ _) | (with_reducible refine Below.alloc ?_ ?_ _) | (with_reducible refine below_more ?_ ?_ _ _) | (with_reducible refine below_rd ?_ ?_ _ _) | (with_reducible refine Below.drew ?_) | (first | omega | (simp; omega) | (simp; done)))) (by (first | omega | (simp; omega) | (simp; done))) hl2 (by omega) (by omega)).mono ?_; rintro e w' ⟨x, y, t, s, hx, hy, p1, hp1, hp2, rfl, os1, d1, rfl⟩))
  have e0 : W.heap.size ≠ W.heap.size + 1 := by omega
  have hne : W.heap.size + 1 + 1 + os1.size ≠ W.heap.size + 1 := by omega
  have hlt : W.heap.size + 1 < W.heap.size + 1 + 1 + os1.size := by omega
  go_region_held3 (fun w' => w'.cell? ⟨W.heap.size + 1 + 1 + os1.size, 0, none⟩ = some (.complex .f32 x y) ∧ w'.cell? ⟨W.heap.size + 1 + 1 + os1.size, 1, none⟩ = some (.int .i64 t) ∧ w'.cell? ⟨W.heap.size + 1 + 1 + os1.size, 2, none⟩ = some (.int .i64 s)) (simp [go_sem, *])
    (first | (go_at_call 35; refine (pick_any _ W0 B _ a len' cap _ _ (by first | (first | exact heap_alloc_at _ _ (by (first | omega | (simp; omega) | (simp; done))) | ((repeat (first | (refine (heap_alloc_past _ _ ?_).trans ?_; focus (first | omega | (simp; omega) | (simp; done))) | (refine (heap_more_past _ _ _ ?_).trans ?_; focus (first | omega | (simp; omega) | (simp; done))))); exact heap_rd_same (by (first | omega | (simp; omega) | (simp; done))))) | ((repeat (first | (refine (heap_alloc_past _ _ ?_).trans ?_; focus (first | omega | (simp; omega) | (simp; done))) | (refine (heap_more_past _ _ _ ?_).trans ?_; focus (first | omega | (simp; omega) | (simp; done))))); exact heap_alloc_at _ _ (by (first | omega | (simp; omega) | (simp; done)))) | ((repeat (first | (refine (heap_alloc_past _ _ ?_).trans ?_; focus (first | omega | (simp; omega) | (simp; done))) | (refine (heap_more_past _ _ _ ?_).trans ?_; focus (first | omega | (simp; omega) | (simp; done))))); exact heap_rd_same (by (first | omega | (simp; omega) | (simp; done))))) (hv.less hl1) (by repeat' (first | (with_reducible assumption) | (with_reducible exact Below.refl _ _) | (with_reducible refine Below.alloc ?_ ?_ _) | (with_reducible refine below_more ?_ ?_ _ _) | (with_reducible refine below_rd ?_ ?_ _ _) | (with_reducible refine Below.drew ?_) | (first | omega | (simp; omega) | (simp; done)))) (by (first | omega | (simp; omega) | (simp; done))) hl2 (by omega) (by omega) (by omega)).mono ?_; rintro e w' ⟨ku, du, rfl, ⟨hku0, hku1, -⟩, rfl⟩; have hku1 := hku1 (by omega)))
  all_goals
    go_wp2
    go_returns
    first
      | exact DrewSN.mk hx hy (steps_bd (by assumption) (by assumption) (by assumption) (by assumption) (by assumption) (by assumption)).1 (steps_bd (by assumption) (by assumption) (by assumption) (by assumption) (by assumption) (by assumption)).2 (by repeat' (first | (with_reducible exact Below.refl _ _) | (with_reducible assumption) | (with_reducible refine Below.alloc ?_ ?_ _) | (with_reducible refine below_more ?_ ?_ _ _) | (with_reducible refine below_rd ?_ ?_ _ _) | (with_reducible refine Below.drew ?_) | (with_reducible refine Below.setCell ?_ ?_ _) | go_size))
      | exact DrewSN.mk hx hy (path_bd (by assumption) (by assumption) (by assumption) (by assumption)).1 (path_bd (by assumption) (by assumption) (by assumption) (by assumption)).2 (by repeat' (first | (with_reducible exact Below.refl _ _) | (with_reducible assumption) | (with_reducible refine Below.alloc ?_ ?_ _) | (with_reducible refine below_more ?_ ?_ _ _) | (with_reducible refine below_rd ?_ ?_ _ _) | (with_reducible refine Below.drew ?_) | (with_reducible refine Below.setCell ?_ ?_ _) | go_size))
set_option maxRecDepth 100000 in
theorem drawSwingWide_any (a : Option Addr) (len cap B : Nat) (W W0 : World) (hv : HasB W0 B a len) (hbel : Below B W0 W) (hB : B ≤ W.heap.size) (hl : len ≤ 1048576) (hc : len ≤ cap) :
    Calls Try.prog 5 #[.slice a len cap] W (DrewSN W) := by
  go_enter Try.func5, Try.ntmps5
  go_wp2_with (go_at_call 14; refine (l92Steps_any _ _ _ B _ W0 hv (by repeat' (first | (with_reducible assumption) | (with_reducible exact Below.refl _ _) | (with_reducible refine Below.alloc ?_ ?_ _) | (with_reducible refine below_more ?_ ?_ _ _) | (with_reducible refine below_rd ?_ ?_ _ _) | (with_reducible refine Below.drew ?_) | (first | omega | (simp; omega) | (simp; done)))) (by (first | omega | (simp; omega) | (simp; done))) hl hc).mono ?_; rintro e w' ⟨⟨x, y, t, s, k, hx, hy, hk1, hk2, rfl⟩, hb⟩; obtain ⟨os, dd, rfl⟩ := more_of_below hb; clear hb)
  go_returns
  exact DrewSN.mk hx hy hk1 hk2 (by repeat' (first | (with_reducible exact Below.refl _ _) | (with_reducible assumption) | (with_reducible refine Below.alloc ?_ ?_ _) | (with_reducible refine below_more ?_ ?_ _ _) | (with_reducible refine below_rd ?_ ?_ _ _) | (with_reducible refine Below.drew ?_) | (with_reducible refine Below.setCell ?_ ?_ _) | go_size))

end Go.Proofs.Ytmoajpkgdimdaaa
end
