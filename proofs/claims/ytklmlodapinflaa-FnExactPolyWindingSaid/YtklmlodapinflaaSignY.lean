/- The contract of the sign of a surd, of the program; SurdSign. -/
import Derived.Test.YtklmlodapinflaaSignX
import Derived.Test.YtklmlodapinflaaSurdD
import Derived.Deep.RegionHeld3
namespace Go.Proofs.Ytklmlodapinflaa
open Go.RowKit

theorem q4_same {p q : Q2} (h : p.sg = q.sg) : Q4.sg ⟨p, q⟩ = p.sg := by
  rcases Q2.sg_cases (Q4.nm ⟨p, q⟩) with h0 | h0 | h0
  · have := Q4.nm_zero h0
    have hp : p = ⟨0, 0⟩ := congrArg Q4.p this
    have hq : q = ⟨0, 0⟩ := congrArg Q4.q this
    subst hp; subst hq; decide
  · exact Q4.sg_P h0
  · rw [Q4.sg_N h0]; exact h.symm
theorem q4_q0 {p q : Q2} (h : q.sg = 0) : Q4.sg ⟨p, q⟩ = p.sg := by
  rcases Q2.sg_cases (Q4.nm ⟨p, q⟩) with h0 | h0 | h0
  · have := Q4.nm_zero h0
    have hp : p = ⟨0, 0⟩ := congrArg Q4.p this
    have hq : q = ⟨0, 0⟩ := congrArg Q4.q this
    subst hp; subst hq; decide
  · exact Q4.sg_P h0
  · exfalso
    have hq := Q2.sg_zero.1 h
    subst hq
    have e : Q4.nm ⟨p, ⟨0, 0⟩⟩ = Q2.mul p p := by apply Q2.ext' <;> simp [Q4.nm, Q2.add, Q2.mul, Q2.neg, Q2.smul]
    rw [e, Q2.sg_mul] at h0
    rcases Q2.sg_cases p with g | g | g <;> rw [g] at h0 <;> omega
theorem q4_p0 {p q : Q2} (h : p.sg = 0) : Q4.sg ⟨p, q⟩ = q.sg := by
  rcases Q2.sg_cases (Q4.nm ⟨p, q⟩) with h0 | h0 | h0
  · have := Q4.nm_zero h0
    have hp : p = ⟨0, 0⟩ := congrArg Q4.p this
    have hq : q = ⟨0, 0⟩ := congrArg Q4.q this
    subst hp; subst hq; decide
  · exfalso
    have hq := Q2.sg_zero.1 h
    subst hq
    have e : Q4.nm ⟨⟨0, 0⟩, q⟩ = Q2.neg (Q2.smul 3 (Q2.mul q q)) := by apply Q2.ext' <;> simp [Q4.nm, Q2.add, Q2.mul, Q2.neg, Q2.smul]
    rw [e, Q2.sg_negate, Q4.sg_three, Q2.sg_mul] at h0
    rcases Q2.sg_cases q with g | g | g <;> rw [g] at h0 <;> omega
  · exact Q4.sg_N h0
theorem q4_far {p q : Q2} (h : p.sg = -q.sg) : Q4.sg ⟨p, q⟩ = p.sg * (Q4.nm ⟨p, q⟩).sg := by
  rcases Q2.sg_cases (Q4.nm ⟨p, q⟩) with h0 | h0 | h0
  · have := Q4.nm_zero h0
    have hp : p = ⟨0, 0⟩ := congrArg Q4.p this
    have hq : q = ⟨0, 0⟩ := congrArg Q4.q this
    subst hp; subst hq; decide
  · rw [Q4.sg_P h0, h0]; show p.sg = p.sg * 1; omega
  · rw [Q4.sg_N h0, h0]; show q.sg = _; omega
theorem q4_nm (a b c d : Int) : Q4.nm ⟨⟨a, b⟩, ⟨c, d⟩⟩ = ⟨a * a + 2 * b * b - 3 * c * c - 6 * d * d, 2 * a * b - 6 * c * d⟩ := by
  apply Q2.ext' <;> simp only [Q4.nm, Q2.add, Q2.mul, Q2.neg, Q2.smul] <;> grind

/-- The sign of a surd. -/
def sgS (a b c d : Int) : Int := Q4.sg ⟨⟨a, b⟩, ⟨c, d⟩⟩
theorem sgS_cases (a b c d : Int) : sgS a b c d = 0 ∨ sgS a b c d = 1 ∨ sgS a b c d = -1 := by
  unfold sgS Q4.sg
  split
  · exact Q2.sg_cases _
  · split
    · exact Q2.sg_cases _
    · exact Or.inl rfl

set_option maxHeartbeats 2000000 in
set_option maxRecDepth 100000 in
theorem sign_near (a b c d : Int) (w : World) (h : okS a b c d = true) (p q : Int) (hx : Q2.sg ⟨a, b⟩ = p) (hy : Q2.sg ⟨c, d⟩ = q) (hp : ((p == q) = true) ∨ ((p == q) = false ∧ (q == 0) = true)) :
    Calls Try.prog 77 #[sv a b c d] w fun e w' => e = .returned (.int .i64 p) ∧ Below w.heap.size w w' := by
  obtain ⟨ha, hb, hc, hd⟩ := okS_parts h
  rw [inB_iff] at ha hb hc hd
  have HX := Lib.hid hx
  have HY := Lib.hid hy
  clear hx hy h
  rcases hp with hp | ⟨hp, hq⟩
  all_goals
    go_enter Try.func77, Try.ntmps77
    go_wp2_with fail
    go_region_held3 (fun w' => w'.cell? ⟨w.heap.size, 0, none⟩ = some (.int .i64 a) ∧ w'.cell? ⟨w.heap.size, 1, none⟩ = some (.int .i64 b) ∧ w'.cell? ⟨w.heap.size, 2, none⟩ = some (.int .i64 c) ∧ w'.cell? ⟨w.heap.size, 3, none⟩ = some (.int .i64 d)) (simp [go_sem])
      (first | (go_at_call 113; refine (sign2_any _ _ _ (by omega) (by omega) (by omega) (by omega)).mono ?_; (first | rw [HX.out] | rw [HY.out]); rintro e w' ⟨rfl, hb⟩; obtain ⟨os, d, rfl⟩ := more_of_below hb; clear hb))
    all_goals
      go_wp2
      go_ret
      exact ⟨rfl, by repeat' (first | (with_reducible exact Below.refl _ _) | (with_reducible assumption) | (with_reducible refine Below.alloc ?_ ?_ _) | (with_reducible refine below_more ?_ ?_ _ _) | (with_reducible refine below_rd ?_ ?_ _ _) | (with_reducible refine Below.drew ?_) | (with_reducible refine Below.setCell ?_ ?_ _) | go_size)⟩
set_option maxHeartbeats 2000000 in
set_option maxRecDepth 100000 in
theorem sign_p0 (a b c d : Int) (w : World) (h : okS a b c d = true) (p q : Int) (hx : Q2.sg ⟨a, b⟩ = p) (hy : Q2.sg ⟨c, d⟩ = q) (hp : (p == q) = false) (hq : (q == 0) = false) (hp0 : (p == 0) = true) :
    Calls Try.prog 77 #[sv a b c d] w fun e w' => e = .returned (.int .i64 q) ∧ Below w.heap.size w w' := by
  obtain ⟨ha, hb, hc, hd⟩ := okS_parts h
  rw [inB_iff] at ha hb hc hd
  have HX := Lib.hid hx
  have HY := Lib.hid hy
  clear hx hy h
  go_enter Try.func77, Try.ntmps77
  go_wp2_with fail
  go_region_held3 (fun w' => w'.cell? ⟨w.heap.size, 0, none⟩ = some (.int .i64 a) ∧ w'.cell? ⟨w.heap.size, 1, none⟩ = some (.int .i64 b) ∧ w'.cell? ⟨w.heap.size, 2, none⟩ = some (.int .i64 c) ∧ w'.cell? ⟨w.heap.size, 3, none⟩ = some (.int .i64 d)) (simp [go_sem])
    (first | (go_at_call 113; refine (sign2_any _ _ _ (by omega) (by omega) (by omega) (by omega)).mono ?_; (first | rw [HX.out] | rw [HY.out]); rintro e w' ⟨rfl, hb⟩; obtain ⟨os, d, rfl⟩ := more_of_below hb; clear hb))
  all_goals
    go_wp2
    go_ret
    exact ⟨rfl, by repeat' (first | (with_reducible exact Below.refl _ _) | (with_reducible assumption) | (with_reducible refine Below.alloc ?_ ?_ _) | (with_reducible refine below_more ?_ ?_ _ _) | (with_reducible refine below_rd ?_ ?_ _ _) | (with_reducible refine Below.drew ?_) | (with_reducible refine Below.setCell ?_ ?_ _) | go_size)⟩

set_option maxHeartbeats 2000000 in
set_option maxRecDepth 100000 in
theorem sign_far (a b c d : Int) (w : World) (h : okS a b c d = true) (p q s : Int) (hx : Q2.sg ⟨a, b⟩ = p) (hy : Q2.sg ⟨c, d⟩ = q) (hp : (p == q) = false) (hq : (q == 0) = false) (hp0 : (p == 0) = false) (hz : Q2.sg ⟨a * a + 2 * b * b - 3 * c * c - 6 * d * d, 2 * a * b - 6 * c * d⟩ = s) (bp : -1 ≤ p ∧ p ≤ 1) (bs : s = 0 ∨ s = 1 ∨ s = -1) :
    Calls Try.prog 77 #[sv a b c d] w fun e w' => e = .returned (.int .i64 (p * s)) ∧ Below w.heap.size w w' := by
  obtain ⟨ha, hb, hc, hd⟩ := okS_parts h
  obtain ⟨p11, q11⟩ := pB_of ha ha; obtain ⟨p22, q22⟩ := k2B hb hb; obtain ⟨p33, q33⟩ := k3B hc hc; obtain ⟨p44, q44⟩ := k6B hd hd
  obtain ⟨p12, q12⟩ := k2B ha hb; obtain ⟨p34, q34⟩ := k6B hc hd
  rw [inB_iff] at ha hb hc hd
  have HX := Lib.hid hx
  have HY := Lib.hid hy
  have HZ := Lib.hid hz
  clear hx hy hz h
  rcases bs with rfl | rfl | rfl
  all_goals
    go_enter Try.func77, Try.ntmps77
    go_wp2_with fail
    go_region_held3 (fun w' => w'.cell? ⟨w.heap.size, 0, none⟩ = some (.int .i64 a) ∧ w'.cell? ⟨w.heap.size, 1, none⟩ = some (.int .i64 b) ∧ w'.cell? ⟨w.heap.size, 2, none⟩ = some (.int .i64 c) ∧ w'.cell? ⟨w.heap.size, 3, none⟩ = some (.int .i64 d)) (simp [go_sem])
      (first | (go_at_call 113; refine (sign2_any _ _ _ (by omega) (by omega) (by omega) (by omega)).mono ?_; (first | rw [HX.out] | rw [HY.out]); rintro e w' ⟨rfl, hb⟩; obtain ⟨os, d, rfl⟩ := more_of_below hb; clear hb))
    all_goals
      go_wp2_with (go_at_call 113; refine (sign2_any _ _ _ (by omega) (by omega) (by omega) (by omega)).mono ?_; rw [HZ.out]; rintro e w' ⟨rfl, hb⟩; obtain ⟨os, d, rfl⟩ := more_of_below hb; clear hb)
      go_ret
      exact ⟨by simp, by repeat' (first | (with_reducible exact Below.refl _ _) | (with_reducible assumption) | (with_reducible refine Below.alloc ?_ ?_ _) | (with_reducible refine below_more ?_ ?_ _ _) | (with_reducible refine below_rd ?_ ?_ _ _) | (with_reducible refine Below.drew ?_) | (with_reducible refine Below.setCell ?_ ?_ _) | go_size)⟩

theorem sign_any (a b c d : Int) (w : World) (h : okS a b c d = true) :
    Calls Try.prog 77 #[sv a b c d] w fun e w' => e = .returned (.int .i64 (sgS a b c d)) ∧ Below w.heap.size w w' := by
  unfold sgS
  rcases Q2.sg_cases ⟨a, b⟩ with h1 | h1 | h1 <;> rcases Q2.sg_cases ⟨c, d⟩ with h2 | h2 | h2
  · rw [q4_same (by rw [h1, h2])]; rw [h1]; exact sign_near a b c d w h _ _ h1 h2 (Or.inl rfl)
  · rw [q4_p0 h1]; rw [h2]; exact sign_p0 a b c d w h _ _ h1 h2 rfl rfl rfl
  · rw [q4_p0 h1]; rw [h2]; exact sign_p0 a b c d w h _ _ h1 h2 rfl rfl rfl
  · rw [q4_q0 h2]; rw [h1]; exact sign_near a b c d w h _ _ h1 h2 (Or.inr ⟨rfl, rfl⟩)
  · rw [q4_same (by rw [h1, h2])]; rw [h1]; exact sign_near a b c d w h _ _ h1 h2 (Or.inl rfl)
  · rw [q4_far (by rw [h1, h2]; rfl), q4_nm]; rw [h1]; exact sign_far a b c d w h _ _ _ h1 h2 rfl rfl rfl rfl (by omega) (Q2.sg_cases _)
  · rw [q4_q0 h2]; rw [h1]; exact sign_near a b c d w h _ _ h1 h2 (Or.inr ⟨rfl, rfl⟩)
  · rw [q4_far (by rw [h1, h2]), q4_nm]; rw [h1]; exact sign_far a b c d w h _ _ _ h1 h2 rfl rfl rfl rfl (by omega) (Q2.sg_cases _)
  · rw [q4_same (by rw [h1, h2])]; rw [h1]; exact sign_near a b c d w h _ _ h1 h2 (Or.inl rfl)

theorem surdSign_yes (a b c d : Int) (w : World) (h : okS a b c d = true) :
    Calls Try.prog 31 #[sv a b c d] w fun e w' => e = .returned (.tuple #[.int .i64 (sgS a b c d), .bool true]) ∧ Below w.heap.size w w' := by
  go_enter Try.func31, Try.ntmps31
  go_wp2_with (first
    | (go_at_call 76; refine (valid_any _ _ _ _ _).mono ?_; rintro e w' ⟨rfl, hb⟩; obtain ⟨os, d, rfl⟩ := more_of_below hb; clear hb)
    | (go_at_call 77; refine (sign_any _ _ _ _ _ h).mono ?_; rintro e w' ⟨rfl, hb⟩; obtain ⟨os, d, rfl⟩ := more_of_below hb; clear hb))
  go_returns
  exact ⟨rfl, by repeat' (first | (with_reducible exact Below.refl _ _) | (with_reducible assumption) | (with_reducible refine Below.alloc ?_ ?_ _) | (with_reducible refine below_more ?_ ?_ _ _) | (with_reducible refine below_rd ?_ ?_ _ _) | (with_reducible refine Below.drew ?_) | (with_reducible refine Below.setCell ?_ ?_ _) | go_size)⟩
end Go.Proofs.Ytklmlodapinflaa
