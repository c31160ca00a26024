/- The contracts of SurdTimes, of the program and of the reference: both return the same. -/
import Derived.Test.YtamfdilibgcakaaSurdB
import Derived.Test.YtamfdilibgcakaaSurdC
namespace Go.Proofs.Ytamfdilibgcakaa
open Go.RowKit


theorem k2B {x y : Int} (hx : inB x (-10000000) 10000000 = true) (hy : inB y (-10000000) 10000000 = true) : -200000000000000 ≤ 2 * x * y ∧ 2 * x * y ≤ 200000000000000 := by
  have := pB_of hx hy; unfold pB at this; rw [Int.mul_assoc]; omega
theorem k3B {x y : Int} (hx : inB x (-10000000) 10000000 = true) (hy : inB y (-10000000) 10000000 = true) : -300000000000000 ≤ 3 * x * y ∧ 3 * x * y ≤ 300000000000000 := by
  have := pB_of hx hy; unfold pB at this; rw [Int.mul_assoc]; omega
theorem k6B {x y : Int} (hx : inB x (-10000000) 10000000 = true) (hy : inB y (-10000000) 10000000 = true) : -600000000000000 ≤ 6 * x * y ∧ 6 * x * y ≤ 600000000000000 := by
  have := pB_of hx hy; unfold pB at this; rw [Int.mul_assoc]; omega

/-- The product is told: both are valid, and so is it. -/
def stOk (a b c d a' b' c' d' : Int) : Bool := okS a b c d && okS a' b' c' d' && okS (tA a b c d a' b' c' d') (tB a b c d a' b' c' d') (tC a b c d a' b' c' d') (tD a b c d a' b' c' d')

theorem surdTimes_yes (a b c d a' b' c' d' : Int) (w : World) (h : stOk a b c d a' b' c' d' = true) :
    Calls Try.prog 37 #[sv a b c d, sv a' b' c' d'] w fun e w' => e = .returned (.tuple #[sv (tA a b c d a' b' c' d') (tB a b c d a' b' c' d') (tC a b c d a' b' c' d') (tD a b c d a' b' c' d'), .bool true]) ∧ Below w.heap.size w w' := by
  simp only [stOk, Bool.and_eq_true] at h
  obtain ⟨⟨h1, h2⟩, h3⟩ := h
  go_enter Try.func37, Try.ntmps37
  go_wp2_with (first
    | (go_at_call 66; refine (valid_any _ _ _ _ _).mono ?_; rintro e w' ⟨rfl, hb⟩; obtain ⟨os, d, rfl⟩ := more_of_below hb; clear hb)
    | (go_at_call 67; refine (times_any _ _ _ _ _ _ _ _ _ h1 h2).mono ?_; rintro e w' ⟨rfl, hb⟩; obtain ⟨os, d, rfl⟩ := more_of_below hb; clear hb)
    | (go_at_call 68; refine (made_yes _ _ _ _ _ h3).mono ?_; rintro e w' ⟨rfl, hb⟩; obtain ⟨os, d, rfl⟩ := more_of_below hb; clear hb))
  go_returns
  exact ⟨rfl, by repeat' (first | (with_reducible exact Below.refl _ _) | (with_reducible assumption) | (with_reducible refine Below.alloc ?_ ?_ _) | (with_reducible refine below_more ?_ ?_ _ _) | (with_reducible refine below_rd ?_ ?_ _ _) | (with_reducible refine Below.drew ?_) | (with_reducible refine Below.setCell ?_ ?_ _) | go_size)⟩

set_option maxHeartbeats 1000000 in
theorem surdTimes_no (a b c d a' b' c' d' : Int) (w : World) (h : stOk a b c d a' b' c' d' = false) :
    Calls Try.prog 37 #[sv a b c d, sv a' b' c' d'] w fun e w' => e = .returned (.tuple #[sv 0 0 0 0, .bool false]) ∧ Below w.heap.size w w' := by
  rcases Bool.eq_false_or_eq_true (okS a b c d) with h1 | h1
  · rcases Bool.eq_false_or_eq_true (okS a' b' c' d') with h2 | h2
    · have h3 : okS (tA a b c d a' b' c' d') (tB a b c d a' b' c' d') (tC a b c d a' b' c' d') (tD a b c d a' b' c' d') = false := by simpa [stOk, h1, h2] using h
      clear h
      go_enter Try.func37, Try.ntmps37
      go_wp2_with (first
        | (go_at_call 66; refine (valid_any _ _ _ _ _).mono ?_; rintro e w' ⟨rfl, hb⟩; obtain ⟨os, d, rfl⟩ := more_of_below hb; clear hb)
        | (go_at_call 67; refine (times_any _ _ _ _ _ _ _ _ _ h1 h2).mono ?_; rintro e w' ⟨rfl, hb⟩; obtain ⟨os, d, rfl⟩ := more_of_below hb; clear hb)
        | (go_at_call 68; refine (made_no _ _ _ _ _ h3).mono ?_; rintro e w' ⟨rfl, hb⟩; obtain ⟨os, d, rfl⟩ := more_of_below hb; clear hb))
      go_returns
      exact ⟨rfl, by repeat' (first | (with_reducible exact Below.refl _ _) | (with_reducible assumption) | (with_reducible refine Below.alloc ?_ ?_ _) | (with_reducible refine below_more ?_ ?_ _ _) | (with_reducible refine below_rd ?_ ?_ _ _) | (with_reducible refine Below.drew ?_) | (with_reducible refine Below.setCell ?_ ?_ _) | go_size)⟩
    all_goals
      clear h
      go_enter Try.func37, Try.ntmps37
      go_wp2_with (go_at_call 66; refine (valid_any _ _ _ _ _).mono ?_; rintro e w' ⟨rfl, hb⟩; obtain ⟨os, d, rfl⟩ := more_of_below hb; clear hb)
      go_returns
      exact ⟨rfl, by repeat' (first | (with_reducible exact Below.refl _ _) | (with_reducible assumption) | (with_reducible refine Below.alloc ?_ ?_ _) | (with_reducible refine below_more ?_ ?_ _ _) | (with_reducible refine below_rd ?_ ?_ _ _) | (with_reducible refine Below.drew ?_) | (with_reducible refine Below.setCell ?_ ?_ _) | go_size)⟩
  · clear h
    go_enter Try.func37, Try.ntmps37
    go_wp2_with (go_at_call 66; refine (valid_any _ _ _ _ _).mono ?_; rintro e w' ⟨rfl, hb⟩; obtain ⟨os, d, rfl⟩ := more_of_below hb; clear hb)
    go_returns
    exact ⟨rfl, by repeat' (first | (with_reducible exact Below.refl _ _) | (with_reducible assumption) | (with_reducible refine Below.alloc ?_ ?_ _) | (with_reducible refine below_more ?_ ?_ _ _) | (with_reducible refine below_rd ?_ ?_ _ _) | (with_reducible refine Below.drew ?_) | (with_reducible refine Below.setCell ?_ ?_ _) | go_size)⟩

theorem spec_tB (a b c d a' b' c' d' : Int) : a * b' + b * a' + 3 * c * d' + 3 * d * c' = tB a b c d a' b' c' d' := by
  unfold tB; rw [Int.mul_assoc 3 c d', Int.mul_assoc 3 d c']; omega
theorem spec_tC (a b c d a' b' c' d' : Int) : a * c' + c * a' + 2 * b * d' + 2 * d * b' = tC a b c d a' b' c' d' := by
  unfold tC; rw [Int.mul_assoc 2 b d', Int.mul_assoc 2 d b']; omega

theorem specTimes_yes (a b c d a' b' c' d' : Int) (w : World) (h : stOk a b c d a' b' c' d' = true) :
    Calls Try.prog 38 #[sv a b c d, sv a' b' c' d'] w fun e w' => e = .returned (.tuple #[sv (tA a b c d a' b' c' d') (tB a b c d a' b' c' d') (tC a b c d a' b' c' d') (tD a b c d a' b' c' d'), .bool true]) ∧ Below w.heap.size w w' := by
  simp only [stOk, Bool.and_eq_true] at h
  obtain ⟨⟨h1, h2⟩, h3⟩ := h
  obtain ⟨ha, hb, hc, hd⟩ := okS_parts h1
  obtain ⟨ha', hb', hc', hd'⟩ := okS_parts h2
  obtain ⟨p11, q11⟩ := pB_of ha ha'; obtain ⟨p12, q12⟩ := pB_of ha hb'; obtain ⟨p13, q13⟩ := pB_of ha hc'; obtain ⟨p14, q14⟩ := pB_of ha hd'
  obtain ⟨p21, q21⟩ := pB_of hb ha'; obtain ⟨p22, q22⟩ := k2B hb hb'; obtain ⟨p23, q23⟩ := pB_of hb hc'; obtain ⟨p24, q24⟩ := k2B hb hd'
  obtain ⟨p31, q31⟩ := pB_of hc ha'; obtain ⟨p32, q32⟩ := pB_of hc hb'; obtain ⟨p33, q33⟩ := k3B hc hc'; obtain ⟨p34, q34⟩ := k3B hc hd'
  obtain ⟨p41, q41⟩ := pB_of hd ha'; obtain ⟨p42, q42⟩ := k2B hd hb'; obtain ⟨p43, q43⟩ := k3B hd hc'; obtain ⟨p44, q44⟩ := k6B hd hd'
  obtain ⟨p53, q53⟩ := pB_of hd hb'; obtain ⟨p54, q54⟩ := pB_of hd hc'
  rw [inB_iff] at ha hb hc hd
  have h3' : okS (a * a' + 2 * b * b' + 3 * c * c' + 6 * d * d') (a * b' + b * a' + 3 * c * d' + 3 * d * c') (a * c' + c * a' + 2 * b * d' + 2 * d * b') (a * d' + d * a' + b * c' + c * b') = true := by
    rw [spec_tB, spec_tC]; exact h3
  have K3 : ∀ w, Calls Try.prog 70 #[sv (a * a' + 2 * b * b' + 3 * c * c' + 6 * d * d') (a * b' + b * a' + 3 * c * d' + 3 * d * c') (a * c' + c * a' + 2 * b * d' + 2 * d * b') (a * d' + d * a' + b * c' + c * b')] w fun e w' => e = .returned (.tuple #[sv (tA a b c d a' b' c' d') (tB a b c d a' b' c' d') (tC a b c d a' b' c' d') (tD a b c d a' b' c' d'), .bool true]) ∧ Below w.heap.size w w' := fun w =>
    (done_yes _ _ _ _ w h3').mono fun e w' ⟨he, hb⟩ => ⟨by rw [he, ← spec_tB, ← spec_tC]; rfl, hb⟩
  have K := Lib.hid K3
  clear K3 h3' h3
  go_enter Try.func38, Try.ntmps38
  go_wp2_with (first
    | (go_at_call 69; refine (specValid_any _ _ _ _ _).mono ?_; rintro e w' ⟨rfl, hb⟩; obtain ⟨os, d, rfl⟩ := more_of_below hb; clear hb)
    | (go_at_call 70; refine (K.out _).mono ?_; rintro e w' ⟨rfl, hb⟩; obtain ⟨os, d, rfl⟩ := more_of_below hb; clear hb))
  go_returns
  exact ⟨rfl, by repeat' (first | (with_reducible exact Below.refl _ _) | (with_reducible assumption) | (with_reducible refine Below.alloc ?_ ?_ _) | (with_reducible refine below_more ?_ ?_ _ _) | (with_reducible refine below_rd ?_ ?_ _ _) | (with_reducible refine Below.drew ?_) | (with_reducible refine Below.setCell ?_ ?_ _) | go_size)⟩

set_option maxHeartbeats 1000000 in
theorem specTimes_no (a b c d a' b' c' d' : Int) (w : World) (h : stOk a b c d a' b' c' d' = false) :
    Calls Try.prog 38 #[sv a b c d, sv a' b' c' d'] w fun e w' => e = .returned (.tuple #[sv 0 0 0 0, .bool false]) ∧ Below w.heap.size w w' := by
  rcases Bool.eq_false_or_eq_true (okS a b c d) with h1 | h1
  · rcases Bool.eq_false_or_eq_true (okS a' b' c' d') with h2 | h2
    · have h3 : okS (tA a b c d a' b' c' d') (tB a b c d a' b' c' d') (tC a b c d a' b' c' d') (tD a b c d a' b' c' d') = false := by simpa [stOk, h1, h2] using h
      clear h
      obtain ⟨ha, hb, hc, hd⟩ := okS_parts h1
      obtain ⟨ha', hb', hc', hd'⟩ := okS_parts h2
      obtain ⟨p11, q11⟩ := pB_of ha ha'; obtain ⟨p12, q12⟩ := pB_of ha hb'; obtain ⟨p13, q13⟩ := pB_of ha hc'; obtain ⟨p14, q14⟩ := pB_of ha hd'
      obtain ⟨p21, q21⟩ := pB_of hb ha'; obtain ⟨p22, q22⟩ := k2B hb hb'; obtain ⟨p23, q23⟩ := pB_of hb hc'; obtain ⟨p24, q24⟩ := k2B hb hd'
      obtain ⟨p31, q31⟩ := pB_of hc ha'; obtain ⟨p32, q32⟩ := pB_of hc hb'; obtain ⟨p33, q33⟩ := k3B hc hc'; obtain ⟨p34, q34⟩ := k3B hc hd'
      obtain ⟨p41, q41⟩ := pB_of hd ha'; obtain ⟨p42, q42⟩ := k2B hd hb'; obtain ⟨p43, q43⟩ := k3B hd hc'; obtain ⟨p44, q44⟩ := k6B hd hd'
      obtain ⟨p53, q53⟩ := pB_of hd hb'; obtain ⟨p54, q54⟩ := pB_of hd hc'
      rw [inB_iff] at ha hb hc hd
      have h3' : okS (a * a' + 2 * b * b' + 3 * c * c' + 6 * d * d') (a * b' + b * a' + 3 * c * d' + 3 * d * c') (a * c' + c * a' + 2 * b * d' + 2 * d * b') (a * d' + d * a' + b * c' + c * b') = false := by
        rw [spec_tB, spec_tC]; exact h3
      have K3 := fun w => done_no _ _ _ _ w h3'
      have K := Lib.hid K3
      clear K3 h3' h3
      go_enter Try.func38, Try.ntmps38
      go_wp2_with (first
        | (go_at_call 69; refine (specValid_any _ _ _ _ _).mono ?_; rintro e w' ⟨rfl, hb⟩; obtain ⟨os, d, rfl⟩ := more_of_below hb; clear hb)
        | (go_at_call 70; refine (K.out _).mono ?_; rintro e w' ⟨rfl, hb⟩; obtain ⟨os, d, rfl⟩ := more_of_below hb; clear hb))
      go_returns
      exact ⟨rfl, by repeat' (first | (with_reducible exact Below.refl _ _) | (with_reducible assumption) | (with_reducible refine Below.alloc ?_ ?_ _) | (with_reducible refine below_more ?_ ?_ _ _) | (with_reducible refine below_rd ?_ ?_ _ _) | (with_reducible refine Below.drew ?_) | (with_reducible refine Below.setCell ?_ ?_ _) | go_size)⟩
    all_goals
      clear h
      go_enter Try.func38, Try.ntmps38
      go_wp2_with (go_at_call 69; refine (specValid_any _ _ _ _ _).mono ?_; rintro e w' ⟨rfl, hb⟩; obtain ⟨os, d, rfl⟩ := more_of_below hb; clear hb)
      go_returns
      exact ⟨rfl, by repeat' (first | (with_reducible exact Below.refl _ _) | (with_reducible assumption) | (with_reducible refine Below.alloc ?_ ?_ _) | (with_reducible refine below_more ?_ ?_ _ _) | (with_reducible refine below_rd ?_ ?_ _ _) | (with_reducible refine Below.drew ?_) | (with_reducible refine Below.setCell ?_ ?_ _) | go_size)⟩
  · clear h
    go_enter Try.func38, Try.ntmps38
    go_wp2_with (go_at_call 69; refine (specValid_any _ _ _ _ _).mono ?_; rintro e w' ⟨rfl, hb⟩; obtain ⟨os, d, rfl⟩ := more_of_below hb; clear hb)
    go_returns
    exact ⟨rfl, by repeat' (first | (with_reducible exact Below.refl _ _) | (with_reducible assumption) | (with_reducible refine Below.alloc ?_ ?_ _) | (with_reducible refine below_more ?_ ?_ _ _) | (with_reducible refine below_rd ?_ ?_ _ _) | (with_reducible refine Below.drew ?_) | (with_reducible refine Below.setCell ?_ ?_ _) | go_size)⟩

end Go.Proofs.Ytamfdilibgcakaa
