/- SurdRe, SurdIm, SurdNorm, of the program and of the reference: contracts with open arguments. Printed by a program. -/
import Derived.Test.YtelgbmebjickeaaSurdG
import Derived.Test.YtelgbmebjickeaaCycI
import Derived.Test.YtelgbmebjickeaaNormP
namespace Go.Proofs.Ytelgbmebjickeaa
open Go.RowKit

theorem okC_lim {x : C8} (h : okC x = true) : C8.lim 1000000000 x := C8.lim_mono (C8.lim_ok h) (by omega)
theorem okS_zero : okS 0 0 0 0 = true := by decide
def srOk (x : C8) : Bool := okC x && okT x.re
def siOk (x : C8) : Bool := okC x && okT x.im
def C8.srR (x : C8) : S4 := if srOk x = true then x.re else S4.zero
def C8.siR (x : C8) : S4 := if siOk x = true then x.im else S4.zero
/-- The norm is told. -/
def nmOk (x : C8) : Bool := miOk x && tmOk x x.mir && okT x.nrm
def C8.nmR (x : C8) : S4 := if nmOk x = true then x.nrm else S4.zero
theorem sS_zero : sS S4.zero = sv 0 0 0 0 := rfl





set_option maxRecDepth 100000 in
set_option maxHeartbeats 1000000 in
theorem surdNorm_yes (x : C8) (w : World) (h : nmOk x = true) :
    Calls Try.prog 68 #[cv x] w fun e w' => e = .returned (.tuple #[sS x.nrm, .bool true]) ∧ Below w.heap.size w w' := by
  simp only [nmOk, Bool.and_eq_true] at h
  obtain ⟨⟨h1, h2⟩, h3⟩ := h
  have k1 : C8.miR x = x.mir := by rw [C8.miR, if_pos h1]
  have k2 : C8.tmR x x.mir = C8.mul x x.mir := by rw [C8.tmR, if_pos h2]
  have HL := Lib.hid (okC_lim (x := C8.mul x x.mir) (by simp only [tmOk, Bool.and_eq_true] at h2; exact h2.2))
  have H3 := Lib.hid (show okS x.nrm.a x.nrm.b x.nrm.c x.nrm.d = true from h3)
  clear h3
  go_enter Try.func68, Try.ntmps68
  go_wp2_with (first
    | (go_at_call 94; refine (cycMirror_any _ _).mono ?_; rintro e w' ⟨rfl, hb⟩; obtain ⟨os, d, rfl⟩ := more_of_below hb; clear hb)
    | (go_at_call 44; refine (cycTimes_any _ _ _).mono ?_; rintro e w' ⟨rfl, hb⟩; obtain ⟨os, d, rfl⟩ := more_of_below hb; clear hb)
    | (go_at_call 95; refine (cre_any _ HL.out _).mono ?_; rintro e w' ⟨rfl, hb⟩; obtain ⟨os, d, rfl⟩ := more_of_below hb; clear hb)
    | (go_at_call 96; refine (made_yes _ _ _ _ _ H3.out).mono ?_; rintro e w' ⟨rfl, hb⟩; obtain ⟨os, d, rfl⟩ := more_of_below hb; clear hb))
  go_returns
  exact ⟨rfl, by repeat' (first | (with_reducible exact Below.refl _ _) | (with_reducible assumption) | (with_reducible refine Below.alloc ?_ ?_ _) | (with_reducible refine below_more ?_ ?_ _ _) | (with_reducible refine below_rd ?_ ?_ _ _) | (with_reducible refine Below.drew ?_) | (with_reducible refine Below.setCell ?_ ?_ _) | go_size)⟩
set_option maxRecDepth 100000 in
set_option maxHeartbeats 1000000 in
theorem surdNorm_no (x : C8) (w : World) (h : nmOk x = false) :
    Calls Try.prog 68 #[cv x] w fun e w' => e = .returned (.tuple #[sv 0 0 0 0, .bool false]) ∧ Below w.heap.size w w' := by
  rcases Bool.eq_false_or_eq_true (miOk x) with h1 | h1
  · have k1 : C8.miR x = x.mir := by rw [C8.miR, if_pos h1]
    rcases Bool.eq_false_or_eq_true (tmOk x x.mir) with h2 | h2
    · have k2 : C8.tmR x x.mir = C8.mul x x.mir := by rw [C8.tmR, if_pos h2]
      have HL := Lib.hid (okC_lim (x := C8.mul x x.mir) (by simp only [tmOk, Bool.and_eq_true] at h2; exact h2.2))
      have H3 := Lib.hid (show okS x.nrm.a x.nrm.b x.nrm.c x.nrm.d = false by simpa [nmOk, okT, h1, h2] using h)
      clear h
      go_enter Try.func68, Try.ntmps68
      go_wp2_with (first
        | (go_at_call 94; refine (cycMirror_any _ _).mono ?_; rintro e w' ⟨rfl, hb⟩; obtain ⟨os, d, rfl⟩ := more_of_below hb; clear hb)
        | (go_at_call 44; refine (cycTimes_any _ _ _).mono ?_; rintro e w' ⟨rfl, hb⟩; obtain ⟨os, d, rfl⟩ := more_of_below hb; clear hb)
        | (go_at_call 95; refine (cre_any _ HL.out _).mono ?_; rintro e w' ⟨rfl, hb⟩; obtain ⟨os, d, rfl⟩ := more_of_below hb; clear hb)
        | (go_at_call 96; refine (made_no _ _ _ _ _ H3.out).mono ?_; rintro e w' ⟨rfl, hb⟩; obtain ⟨os, d, rfl⟩ := more_of_below hb; clear hb))
      go_returns
      exact ⟨rfl, by repeat' (first | (with_reducible exact Below.refl _ _) | (with_reducible assumption) | (with_reducible refine Below.alloc ?_ ?_ _) | (with_reducible refine below_more ?_ ?_ _ _) | (with_reducible refine below_rd ?_ ?_ _ _) | (with_reducible refine Below.drew ?_) | (with_reducible refine Below.setCell ?_ ?_ _) | go_size)⟩
    · clear h
      go_enter Try.func68, Try.ntmps68
      go_wp2_with (first
        | (go_at_call 94; refine (cycMirror_any _ _).mono ?_; rintro e w' ⟨rfl, hb⟩; obtain ⟨os, d, rfl⟩ := more_of_below hb; clear hb)
        | (go_at_call 44; refine (cycTimes_any _ _ _).mono ?_; rintro e w' ⟨rfl, hb⟩; obtain ⟨os, d, rfl⟩ := more_of_below hb; clear hb))
      go_returns
      exact ⟨rfl, by repeat' (first | (with_reducible exact Below.refl _ _) | (with_reducible assumption) | (with_reducible refine Below.alloc ?_ ?_ _) | (with_reducible refine below_more ?_ ?_ _ _) | (with_reducible refine below_rd ?_ ?_ _ _) | (with_reducible refine Below.drew ?_) | (with_reducible refine Below.setCell ?_ ?_ _) | go_size)⟩
  · clear h
    go_enter Try.func68, Try.ntmps68
    go_wp2_with (first
      | (go_at_call 94; refine (cycMirror_any _ _).mono ?_; rintro e w' ⟨rfl, hb⟩; obtain ⟨os, d, rfl⟩ := more_of_below hb; clear hb)
      | (go_at_call 44; refine (cycTimes_any _ _ _).mono ?_; rintro e w' ⟨rfl, hb⟩; obtain ⟨os, d, rfl⟩ := more_of_below hb; clear hb))
    all_goals
      go_returns
      exact ⟨rfl, by repeat' (first | (with_reducible exact Below.refl _ _) | (with_reducible assumption) | (with_reducible refine Below.alloc ?_ ?_ _) | (with_reducible refine below_more ?_ ?_ _ _) | (with_reducible refine below_rd ?_ ?_ _ _) | (with_reducible refine Below.drew ?_) | (with_reducible refine Below.setCell ?_ ?_ _) | go_size)⟩
theorem surdNorm_any (x : C8) (w : World) :
    Calls Try.prog 68 #[cv x] w fun e w' => e = .returned (.tuple #[sS x.nmR, .bool (nmOk x)]) ∧ Below w.heap.size w w' := by
  rcases Bool.eq_false_or_eq_true (nmOk x) with h | h
  · rw [h, show x.nmR = x.nrm by simp [C8.nmR, h]]; exact surdNorm_yes x w h
  · rw [h, show x.nmR = S4.zero by simp [C8.nmR, h]]; exact surdNorm_no x w h

set_option maxRecDepth 100000 in
set_option maxHeartbeats 1000000 in
theorem specSurdNorm_yes (x : C8) (w : World) (h : nmOk x = true) :
    Calls Try.prog 66 #[cv x] w fun e w' => e = .returned (.tuple #[sS x.nrm, .bool true]) ∧ Below w.heap.size w w' := by
  simp only [nmOk, Bool.and_eq_true] at h
  obtain ⟨⟨h1, h2⟩, h3⟩ := h
  have k1 : C8.miR x = x.mir := by rw [C8.miR, if_pos h1]
  have k2 : C8.tmR x x.mir = C8.mul x x.mir := by rw [C8.tmR, if_pos h2]
  have HL := Lib.hid (okC_lim (x := C8.mul x x.mir) (by simp only [tmOk, Bool.and_eq_true] at h2; exact h2.2))
  have H3 := Lib.hid (show okS x.nrm.a x.nrm.b x.nrm.c x.nrm.d = true from h3)
  clear h3
  go_enter Try.func66, Try.ntmps66
  go_wp2_with (first
    | (go_at_call 89; refine (specCycMirror_any _ _).mono ?_; rintro e w' ⟨rfl, hb⟩; obtain ⟨os, d, rfl⟩ := more_of_below hb; clear hb)
    | (go_at_call 41; refine (specCycTimes_any _ _ _).mono ?_; rintro e w' ⟨rfl, hb⟩; obtain ⟨os, d, rfl⟩ := more_of_below hb; clear hb)
    | (go_at_call 91; refine (l3Re_any _ HL.out _).mono ?_; rintro e w' ⟨rfl, hb⟩; obtain ⟨os, d, rfl⟩ := more_of_below hb; clear hb)
    | (go_at_call 90; refine (done_yes _ _ _ _ _ H3.out).mono ?_; rintro e w' ⟨rfl, hb⟩; obtain ⟨os, d, rfl⟩ := more_of_below hb; clear hb))
  go_returns
  exact ⟨rfl, by repeat' (first | (with_reducible exact Below.refl _ _) | (with_reducible assumption) | (with_reducible refine Below.alloc ?_ ?_ _) | (with_reducible refine below_more ?_ ?_ _ _) | (with_reducible refine below_rd ?_ ?_ _ _) | (with_reducible refine Below.drew ?_) | (with_reducible refine Below.setCell ?_ ?_ _) | go_size)⟩
set_option maxRecDepth 100000 in
set_option maxHeartbeats 1000000 in
theorem specSurdNorm_no (x : C8) (w : World) (h : nmOk x = false) :
    Calls Try.prog 66 #[cv x] w fun e w' => e = .returned (.tuple #[sv 0 0 0 0, .bool false]) ∧ Below w.heap.size w w' := by
  rcases Bool.eq_false_or_eq_true (miOk x) with h1 | h1
  · have k1 : C8.miR x = x.mir := by rw [C8.miR, if_pos h1]
    rcases Bool.eq_false_or_eq_true (tmOk x x.mir) with h2 | h2
    · have k2 : C8.tmR x x.mir = C8.mul x x.mir := by rw [C8.tmR, if_pos h2]
      have HL := Lib.hid (okC_lim (x := C8.mul x x.mir) (by simp only [tmOk, Bool.and_eq_true] at h2; exact h2.2))
      have H3 := Lib.hid (show okS x.nrm.a x.nrm.b x.nrm.c x.nrm.d = false by simpa [nmOk, okT, h1, h2] using h)
      clear h
      go_enter Try.func66, Try.ntmps66
      go_wp2_with (first
        | (go_at_call 89; refine (specCycMirror_any _ _).mono ?_; rintro e w' ⟨rfl, hb⟩; obtain ⟨os, d, rfl⟩ := more_of_below hb; clear hb)
        | (go_at_call 41; refine (specCycTimes_any _ _ _).mono ?_; rintro e w' ⟨rfl, hb⟩; obtain ⟨os, d, rfl⟩ := more_of_below hb; clear hb)
        | (go_at_call 91; refine (l3Re_any _ HL.out _).mono ?_; rintro e w' ⟨rfl, hb⟩; obtain ⟨os, d, rfl⟩ := more_of_below hb; clear hb)
        | (go_at_call 90; refine (done_no _ _ _ _ _ H3.out).mono ?_; rintro e w' ⟨rfl, hb⟩; obtain ⟨os, d, rfl⟩ := more_of_below hb; clear hb))
      go_returns
      exact ⟨rfl, by repeat' (first | (with_reducible exact Below.refl _ _) | (with_reducible assumption) | (with_reducible refine Below.alloc ?_ ?_ _) | (with_reducible refine below_more ?_ ?_ _ _) | (with_reducible refine below_rd ?_ ?_ _ _) | (with_reducible refine Below.drew ?_) | (with_reducible refine Below.setCell ?_ ?_ _) | go_size)⟩
    · clear h
      go_enter Try.func66, Try.ntmps66
      go_wp2_with (first
        | (go_at_call 89; refine (specCycMirror_any _ _).mono ?_; rintro e w' ⟨rfl, hb⟩; obtain ⟨os, d, rfl⟩ := more_of_below hb; clear hb)
        | (go_at_call 41; refine (specCycTimes_any _ _ _).mono ?_; rintro e w' ⟨rfl, hb⟩; obtain ⟨os, d, rfl⟩ := more_of_below hb; clear hb))
      go_returns
      exact ⟨rfl, by repeat' (first | (with_reducible exact Below.refl _ _) | (with_reducible assumption) | (with_reducible refine Below.alloc ?_ ?_ _) | (with_reducible refine below_more ?_ ?_ _ _) | (with_reducible refine below_rd ?_ ?_ _ _) | (with_reducible refine Below.drew ?_) | (with_reducible refine Below.setCell ?_ ?_ _) | go_size)⟩
  · clear h
    go_enter Try.func66, Try.ntmps66
    go_wp2_with (first
      | (go_at_call 89; refine (specCycMirror_any _ _).mono ?_; rintro e w' ⟨rfl, hb⟩; obtain ⟨os, d, rfl⟩ := more_of_below hb; clear hb)
      | (go_at_call 41; refine (specCycTimes_any _ _ _).mono ?_; rintro e w' ⟨rfl, hb⟩; obtain ⟨os, d, rfl⟩ := more_of_below hb; clear hb))
    all_goals
      go_returns
      exact ⟨rfl, by repeat' (first | (with_reducible exact Below.refl _ _) | (with_reducible assumption) | (with_reducible refine Below.alloc ?_ ?_ _) | (with_reducible refine below_more ?_ ?_ _ _) | (with_reducible refine below_rd ?_ ?_ _ _) | (with_reducible refine Below.drew ?_) | (with_reducible refine Below.setCell ?_ ?_ _) | go_size)⟩
theorem specSurdNorm_any (x : C8) (w : World) :
    Calls Try.prog 66 #[cv x] w fun e w' => e = .returned (.tuple #[sS x.nmR, .bool (nmOk x)]) ∧ Below w.heap.size w w' := by
  rcases Bool.eq_false_or_eq_true (nmOk x) with h | h
  · rw [h, show x.nmR = x.nrm by simp [C8.nmR, h]]; exact specSurdNorm_yes x w h
  · rw [h, show x.nmR = S4.zero by simp [C8.nmR, h]]; exact specSurdNorm_no x w h

end Go.Proofs.Ytelgbmebjickeaa
