/- Differences of points, and how they stand to a side: plain algebra, and the contracts. -/
import Derived.Test.YtklmlodapinflaaPolyB
import Derived.Test.YtklmlodapinflaaSignS
import Derived.Test.YtklmlodapinflaaScaled
namespace Go.Proofs.Ytklmlodapinflaa
open Go.RowKit Go.Shelf

def C8.sub (a b : C8) : C8 := ⟨a.c0 - b.c0, a.c1 - b.c1, a.c2 - b.c2, a.c3 - b.c3, a.c4 - b.c4, a.c5 - b.c5, a.c6 - b.c6, a.c7 - b.c7⟩
theorem lim_sub {a b : C8} {m n : Int} (ha : C8.lim m a) (hb : C8.lim n b) : C8.lim (m + n) (C8.sub a b) := by
  simp only [C8.lim, C8.sub] at *; omega
set_option maxHeartbeats 4000000 in
theorem crs_side (p q c : C8) : crs (C8.sub q p) (C8.sub c p) = crs (C8.sub p c) (C8.sub q c) := by
  unfold crs
  rw [C8.mul_eq, C8.mul_eq]
  apply S4.ext' <;> simp only [C8.im, C8.mir, C8.sub] <;> grind
set_option maxHeartbeats 4000000 in
theorem alg_side (p q c : C8) : alg (C8.sub c p) (C8.sub c q) = alg (C8.sub p c) (C8.sub q c) := by
  unfold alg
  rw [C8.mul_eq, C8.mul_eq]
  apply S4.ext' <;> simp only [C8.re, C8.mir, C8.sub] <;> grind
theorem crs_ok {a b : C8} (ha : C8.lim 200 a) (hb : C8.lim 200 b) : okT (crs a b) = true := by
  have h := lim_mul (by omega) (by omega) (lim_mir ha) hb
  obtain ⟨a0, a1, a2, a3, a4, a5, a6, a7⟩ := h
  rw [okT_lim]
  simp only [S4.lim, crs, C8.im]
  omega
theorem alg_ok {a b : C8} (ha : C8.lim 200 a) (hb : C8.lim 200 b) : okT (alg a b) = true := by
  have h := lim_mul (by omega) (by omega) (lim_mir ha) hb
  obtain ⟨a0, a1, a2, a3, a4, a5, a6, a7⟩ := h
  rw [okT_lim]
  simp only [S4.lim, alg, C8.re]
  omega
theorem im_ok {a : C8} (ha : C8.lim 200 a) : okT a.im = true := by
  obtain ⟨a0, a1, a2, a3, a4, a5, a6, a7⟩ := ha
  rw [okT_lim]
  simp only [S4.lim, C8.im]
  omega
theorem sumW_sub {a b : C8} (ha : C8.lim 1000 a) (hb : C8.lim 1000 b) : a.sumW (-1) b = C8.sub a b := by
  simp only [C8.lim] at ha hb
  unfold C8.sumW
  apply C8.ext' <;> simp only [C8.sub, wrap64] <;> omega
theorem add_sclTo {a b : C8} (ha : C8.lim 1000 a) (hb : C8.lim 1000 b) : (C8.add a (b.sclTo (-1) 8)).wr = C8.sub a b := by
  simp only [C8.lim] at ha hb
  apply C8.ext' <;> simp [C8.add, C8.sclTo, C8.wr, C8.sub, wrap64] <;> omega
set_option maxRecDepth 100000 in
set_option maxHeartbeats 2000000 in
theorem cminus_any (a b : C8) (ha : C8.lim 1000 a) (hb : C8.lim 1000 b) (w : World) :
    Calls Try.prog 87 #[cv a, cv b] w fun e w' => e = .returned (cv (C8.sub a b)) ∧ Below w.heap.size w w' := by
  have K := Lib.hid (add_sclTo ha hb)
  clear ha hb
  go_enter Try.func87, Try.ntmps87
  go_wp2_with fail
  refine (wpIn_wide (n := 0)).1 ?_
  refine region_fixedIn (lets_wide 0) (fun w' => ∃ os' d', w' = more (((w.alloc (.cells (row a) 25)).alloc (.cells (row b) 25)).alloc (.cells (row C8.zero) 25)) os' d') (by kernel_rfl) 4 [cv a, cv b, cv (b.sclTo (-1) 8), cv (C8.sub a b)] (by simp) (by kernel_rfl) (by kernel_rfl) ⟨#[], _, drew_self _⟩ ?_ ?_
  · simp only [List.take_succ_cons, List.take_zero, puts, Act.put, List.setIfInBounds_toArray, List.set_cons_zero, List.set_cons_succ]
    refine ⟨?_, ?_, ?_, ?_, trivial⟩
    all_goals
      refine Or.inl ⟨by kernel_rfl, ?_⟩
      rintro w' ⟨os', d', rfl⟩ K2 hK
    iterate 2
      · go_simp
        with_reducible exact hK.out _ ⟨_, _, rfl⟩
    · go_simp
      (go_at_call 120; refine (cscaled_any _ _ _).mono ?_; rintro e w' ⟨rfl, hb⟩; obtain ⟨os, d, rfl⟩ := more_of_below hb; clear hb)
      go_simp
      with_reducible exact hK.out _ ⟨_, _, rfl⟩
    · go_simp
      go_at_call 119
      refine (cplus_any _ _ _).mono ?_
      rw [K.out]
      rintro e w' ⟨rfl, hb⟩; obtain ⟨os, d, rfl⟩ := more_of_below hb; clear hb
      go_simp
      with_reducible exact hK.out _ ⟨_, _, rfl⟩
  · rintro w' ⟨os', d', rfl⟩
    simp only [List.take_succ_cons, List.take_zero, puts, Act.put, List.setIfInBounds_toArray, List.set_cons_zero, List.set_cons_succ, List.drop_succ_cons, List.drop_zero]
    gi_wp2
    go_wp2_with fail
    go_returns
    exact ⟨rfl, by repeat' (first | (with_reducible exact Below.refl _ _) | (with_reducible assumption) | (with_reducible refine Below.alloc ?_ ?_ _) | (with_reducible refine below_more ?_ ?_ _ _) | (with_reducible refine below_rd ?_ ?_ _ _) | (with_reducible refine Below.drew ?_) | (with_reducible refine Below.setCell ?_ ?_ _) | go_size)⟩
/-- The sign of a surd as a number. -/
def sgn (s : S4) : Int := sgS s.a s.b s.c s.d
/-- The point c lies on the side. -/
def onB (c : C8) (x : C8 × C8) : Bool := decide (sgn (crs (C8.sub x.1 c) (C8.sub x.2 c)) = 0) && decide (sgn (alg (C8.sub x.1 c) (C8.sub x.2 c)) ≤ 0)
def onA (xs : List C8) (c : C8) : Bool := (sidesUpto xs xs.length).any (onB c)
end Go.Proofs.Ytklmlodapinflaa
