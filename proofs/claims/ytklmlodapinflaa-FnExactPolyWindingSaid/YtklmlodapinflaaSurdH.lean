/- SurdRe, SurdIm, SurdNorm, of the program and of the reference: contracts with open arguments. Printed by a program. -/
import Derived.Test.YtklmlodapinflaaSurdG
import Derived.Test.YtklmlodapinflaaCycI
import Derived.Test.YtklmlodapinflaaNormP
namespace Go.Proofs.Ytklmlodapinflaa
open Go.RowKit

theorem okC_lim {x : C8} (h : okC x = true) : C8.lim 1000000000 x := C8.lim_mono (C8.lim_ok h) (by omega)
theorem okS_zero : okS 0 0 0 0 = true := by decide
def srOk (x : C8) : Bool := okC x && okT x.re
def siOk (x : C8) : Bool := okC x && okT x.im
def C8.srR (x : C8) : S4 := if srOk x = true then x.re else S4.zero
def C8.siR (x : C8) : S4 := if siOk x = true then x.im else S4.zero
/-- The norm is told. -/
def nmOk (x : C8) : Bool := miOk x && tmOk x x.mir && okT x.nrm
def C8.nmR (x : C8) : S4 := if nmOk x = true then x.nrm else S4.zero
theorem sS_zero : sS S4.zero = sv 0 0 0 0 := rfl

theorem surdRe_yes (x : C8) (w : World) (h : srOk x = true) :
    Calls Try.prog 25 #[cv x] w fun e w' => e = .returned (.tuple #[sS x.re, .bool true]) ∧ Below w.heap.size w w' := by
  simp only [srOk, Bool.and_eq_true] at h
  obtain ⟨h1, h2⟩ := h
  go_enter Try.func25, Try.ntmps25
  go_wp2_with (first
    | (go_at_call 54; refine (cvalid_any _ _).mono ?_; rintro e w' ⟨rfl, hb⟩; obtain ⟨os, d, rfl⟩ := more_of_below hb; clear hb)
    | (go_at_call 69; refine (cre_any _ (okC_lim h1) _).mono ?_; rintro e w' ⟨rfl, hb⟩; obtain ⟨os, d, rfl⟩ := more_of_below hb; clear hb)
    | (go_at_call 56; refine (made_yes _ _ _ _ _ h2).mono ?_; rintro e w' ⟨rfl, hb⟩; obtain ⟨os, d, rfl⟩ := more_of_below hb; clear hb))
  go_returns
  exact ⟨rfl, by repeat' (first | (with_reducible exact Below.refl _ _) | (with_reducible assumption) | (with_reducible refine Below.alloc ?_ ?_ _) | (with_reducible refine below_more ?_ ?_ _ _) | (with_reducible refine below_rd ?_ ?_ _ _) | (with_reducible refine Below.drew ?_) | (with_reducible refine Below.setCell ?_ ?_ _) | go_size)⟩
theorem surdRe_no (x : C8) (w : World) (h : srOk x = false) :
    Calls Try.prog 25 #[cv x] w fun e w' => e = .returned (.tuple #[sv 0 0 0 0, .bool false]) ∧ Below w.heap.size w w' := by
  rcases Bool.eq_false_or_eq_true (okC x) with h1 | h1
  · have h2 : okS x.re.a x.re.b x.re.c x.re.d = false := by simpa [srOk, okT, h1] using h
    clear h
    go_enter Try.func25, Try.ntmps25
    go_wp2_with (first
      | (go_at_call 54; refine (cvalid_any _ _).mono ?_; rintro e w' ⟨rfl, hb⟩; obtain ⟨os, d, rfl⟩ := more_of_below hb; clear hb)
      | (go_at_call 69; refine (cre_any _ (okC_lim h1) _).mono ?_; rintro e w' ⟨rfl, hb⟩; obtain ⟨os, d, rfl⟩ := more_of_below hb; clear hb)
      | (go_at_call 56; refine (made_no _ _ _ _ _ h2).mono ?_; rintro e w' ⟨rfl, hb⟩; obtain ⟨os, d, rfl⟩ := more_of_below hb; clear hb))
    go_returns
    exact ⟨rfl, by repeat' (first | (with_reducible exact Below.refl _ _) | (with_reducible assumption) | (with_reducible refine Below.alloc ?_ ?_ _) | (with_reducible refine below_more ?_ ?_ _ _) | (with_reducible refine below_rd ?_ ?_ _ _) | (with_reducible refine Below.drew ?_) | (with_reducible refine Below.setCell ?_ ?_ _) | go_size)⟩
  · clear h
    go_enter Try.func25, Try.ntmps25
    go_wp2_with (go_at_call 54; refine (cvalid_any _ _).mono ?_; rintro e w' ⟨rfl, hb⟩; obtain ⟨os, d, rfl⟩ := more_of_below hb; clear hb)
    go_returns
    exact ⟨rfl, by repeat' (first | (with_reducible exact Below.refl _ _) | (with_reducible assumption) | (with_reducible refine Below.alloc ?_ ?_ _) | (with_reducible refine below_more ?_ ?_ _ _) | (with_reducible refine below_rd ?_ ?_ _ _) | (with_reducible refine Below.drew ?_) | (with_reducible refine Below.setCell ?_ ?_ _) | go_size)⟩
theorem surdRe_any (x : C8) (w : World) :
    Calls Try.prog 25 #[cv x] w fun e w' => e = .returned (.tuple #[sS x.srR, .bool (srOk x)]) ∧ Below w.heap.size w w' := by
  rcases Bool.eq_false_or_eq_true (srOk x) with h | h
  · rw [h, show x.srR = x.re by simp [C8.srR, h]]; exact surdRe_yes x w h
  · rw [h, show x.srR = S4.zero by simp [C8.srR, h]]; exact surdRe_no x w h

theorem specSurdRe_yes (x : C8) (w : World) (h : srOk x = true) :
    Calls Try.prog 26 #[cv x] w fun e w' => e = .returned (.tuple #[sS x.re, .bool true]) ∧ Below w.heap.size w w' := by
  simp only [srOk, Bool.and_eq_true] at h
  obtain ⟨h1, h2⟩ := h
  go_enter Try.func26, Try.ntmps26
  go_wp2_with (first
    | (go_at_call 57; refine (specCValid_any _ _).mono ?_; rintro e w' ⟨rfl, hb⟩; obtain ⟨os, d, rfl⟩ := more_of_below hb; clear hb)
    | (go_at_call 70; refine (l3Re_any _ (okC_lim h1) _).mono ?_; rintro e w' ⟨rfl, hb⟩; obtain ⟨os, d, rfl⟩ := more_of_below hb; clear hb)
    | (go_at_call 58; refine (done_yes _ _ _ _ _ h2).mono ?_; rintro e w' ⟨rfl, hb⟩; obtain ⟨os, d, rfl⟩ := more_of_below hb; clear hb))
  go_returns
  exact ⟨rfl, by repeat' (first | (with_reducible exact Below.refl _ _) | (with_reducible assumption) | (with_reducible refine Below.alloc ?_ ?_ _) | (with_reducible refine below_more ?_ ?_ _ _) | (with_reducible refine below_rd ?_ ?_ _ _) | (with_reducible refine Below.drew ?_) | (with_reducible refine Below.setCell ?_ ?_ _) | go_size)⟩
theorem specSurdRe_no (x : C8) (w : World) (h : srOk x = false) :
    Calls Try.prog 26 #[cv x] w fun e w' => e = .returned (.tuple #[sv 0 0 0 0, .bool false]) ∧ Below w.heap.size w w' := by
  rcases Bool.eq_false_or_eq_true (okC x) with h1 | h1
  · have h2 : okS x.re.a x.re.b x.re.c x.re.d = false := by simpa [srOk, okT, h1] using h
    clear h
    go_enter Try.func26, Try.ntmps26
    go_wp2_with (first
      | (go_at_call 57; refine (specCValid_any _ _).mono ?_; rintro e w' ⟨rfl, hb⟩; obtain ⟨os, d, rfl⟩ := more_of_below hb; clear hb)
      | (go_at_call 70; refine (l3Re_any _ (okC_lim h1) _).mono ?_; rintro e w' ⟨rfl, hb⟩; obtain ⟨os, d, rfl⟩ := more_of_below hb; clear hb)
      | (go_at_call 58; refine (done_no _ _ _ _ _ h2).mono ?_; rintro e w' ⟨rfl, hb⟩; obtain ⟨os, d, rfl⟩ := more_of_below hb; clear hb))
    go_returns
    exact ⟨rfl, by repeat' (first | (with_reducible exact Below.refl _ _) | (with_reducible assumption) | (with_reducible refine Below.alloc ?_ ?_ _) | (with_reducible refine below_more ?_ ?_ _ _) | (with_reducible refine below_rd ?_ ?_ _ _) | (with_reducible refine Below.drew ?_) | (with_reducible refine Below.setCell ?_ ?_ _) | go_size)⟩
  · clear h
    go_enter Try.func26, Try.ntmps26
    go_wp2_with (go_at_call 57; refine (specCValid_any _ _).mono ?_; rintro e w' ⟨rfl, hb⟩; obtain ⟨os, d, rfl⟩ := more_of_below hb; clear hb)
    go_returns
    exact ⟨rfl, by repeat' (first | (with_reducible exact Below.refl _ _) | (with_reducible assumption) | (with_reducible refine Below.alloc ?_ ?_ _) | (with_reducible refine below_more ?_ ?_ _ _) | (with_reducible refine below_rd ?_ ?_ _ _) | (with_reducible refine Below.drew ?_) | (with_reducible refine Below.setCell ?_ ?_ _) | go_size)⟩
theorem specSurdRe_any (x : C8) (w : World) :
    Calls Try.prog 26 #[cv x] w fun e w' => e = .returned (.tuple #[sS x.srR, .bool (srOk x)]) ∧ Below w.heap.size w w' := by
  rcases Bool.eq_false_or_eq_true (srOk x) with h | h
  · rw [h, show x.srR = x.re by simp [C8.srR, h]]; exact specSurdRe_yes x w h
  · rw [h, show x.srR = S4.zero by simp [C8.srR, h]]; exact specSurdRe_no x w h

theorem surdIm_yes (x : C8) (w : World) (h : siOk x = true) :
    Calls Try.prog 15 #[cv x] w fun e w' => e = .returned (.tuple #[sS x.im, .bool true]) ∧ Below w.heap.size w w' := by
  simp only [siOk, Bool.and_eq_true] at h
  obtain ⟨h1, h2⟩ := h
  go_enter Try.func15, Try.ntmps15
  go_wp2_with (first
    | (go_at_call 54; refine (cvalid_any _ _).mono ?_; rintro e w' ⟨rfl, hb⟩; obtain ⟨os, d, rfl⟩ := more_of_below hb; clear hb)
    | (go_at_call 55; refine (cim_any _ (okC_lim h1) _).mono ?_; rintro e w' ⟨rfl, hb⟩; obtain ⟨os, d, rfl⟩ := more_of_below hb; clear hb)
    | (go_at_call 56; refine (made_yes _ _ _ _ _ h2).mono ?_; rintro e w' ⟨rfl, hb⟩; obtain ⟨os, d, rfl⟩ := more_of_below hb; clear hb))
  go_returns
  exact ⟨rfl, by repeat' (first | (with_reducible exact Below.refl _ _) | (with_reducible assumption) | (with_reducible refine Below.alloc ?_ ?_ _) | (with_reducible refine below_more ?_ ?_ _ _) | (with_reducible refine below_rd ?_ ?_ _ _) | (with_reducible refine Below.drew ?_) | (with_reducible refine Below.setCell ?_ ?_ _) | go_size)⟩
theorem surdIm_no (x : C8) (w : World) (h : siOk x = false) :
    Calls Try.prog 15 #[cv x] w fun e w' => e = .returned (.tuple #[sv 0 0 0 0, .bool false]) ∧ Below w.heap.size w w' := by
  rcases Bool.eq_false_or_eq_true (okC x) with h1 | h1
  · have h2 : okS x.im.a x.im.b x.im.c x.im.d = false := by simpa [siOk, okT, h1] using h
    clear h
    go_enter Try.func15, Try.ntmps15
    go_wp2_with (first
      | (go_at_call 54; refine (cvalid_any _ _).mono ?_; rintro e w' ⟨rfl, hb⟩; obtain ⟨os, d, rfl⟩ := more_of_below hb; clear hb)
      | (go_at_call 55; refine (cim_any _ (okC_lim h1) _).mono ?_; rintro e w' ⟨rfl, hb⟩; obtain ⟨os, d, rfl⟩ := more_of_below hb; clear hb)
      | (go_at_call 56; refine (made_no _ _ _ _ _ h2).mono ?_; rintro e w' ⟨rfl, hb⟩; obtain ⟨os, d, rfl⟩ := more_of_below hb; clear hb))
    go_returns
    exact ⟨rfl, by repeat' (first | (with_reducible exact Below.refl _ _) | (with_reducible assumption) | (with_reducible refine Below.alloc ?_ ?_ _) | (with_reducible refine below_more ?_ ?_ _ _) | (with_reducible refine below_rd ?_ ?_ _ _) | (with_reducible refine Below.drew ?_) | (with_reducible refine Below.setCell ?_ ?_ _) | go_size)⟩
  · clear h
    go_enter Try.func15, Try.ntmps15
    go_wp2_with (go_at_call 54; refine (cvalid_any _ _).mono ?_; rintro e w' ⟨rfl, hb⟩; obtain ⟨os, d, rfl⟩ := more_of_below hb; clear hb)
    go_returns
    exact ⟨rfl, by repeat' (first | (with_reducible exact Below.refl _ _) | (with_reducible assumption) | (with_reducible refine Below.alloc ?_ ?_ _) | (with_reducible refine below_more ?_ ?_ _ _) | (with_reducible refine below_rd ?_ ?_ _ _) | (with_reducible refine Below.drew ?_) | (with_reducible refine Below.setCell ?_ ?_ _) | go_size)⟩
theorem surdIm_any (x : C8) (w : World) :
    Calls Try.prog 15 #[cv x] w fun e w' => e = .returned (.tuple #[sS x.siR, .bool (siOk x)]) ∧ Below w.heap.size w w' := by
  rcases Bool.eq_false_or_eq_true (siOk x) with h | h
  · rw [h, show x.siR = x.im by simp [C8.siR, h]]; exact surdIm_yes x w h
  · rw [h, show x.siR = S4.zero by simp [C8.siR, h]]; exact surdIm_no x w h

theorem specSurdIm_yes (x : C8) (w : World) (h : siOk x = true) :
    Calls Try.prog 16 #[cv x] w fun e w' => e = .returned (.tuple #[sS x.im, .bool true]) ∧ Below w.heap.size w w' := by
  simp only [siOk, Bool.and_eq_true] at h
  obtain ⟨h1, h2⟩ := h
  go_enter Try.func16, Try.ntmps16
  go_wp2_with (first
    | (go_at_call 57; refine (specCValid_any _ _).mono ?_; rintro e w' ⟨rfl, hb⟩; obtain ⟨os, d, rfl⟩ := more_of_below hb; clear hb)
    | (go_at_call 59; refine (l3Im_any _ (okC_lim h1) _).mono ?_; rintro e w' ⟨rfl, hb⟩; obtain ⟨os, d, rfl⟩ := more_of_below hb; clear hb)
    | (go_at_call 58; refine (done_yes _ _ _ _ _ h2).mono ?_; rintro e w' ⟨rfl, hb⟩; obtain ⟨os, d, rfl⟩ := more_of_below hb; clear hb))
  go_returns
  exact ⟨rfl, by repeat' (first | (with_reducible exact Below.refl _ _) | (with_reducible assumption) | (with_reducible refine Below.alloc ?_ ?_ _) | (with_reducible refine below_more ?_ ?_ _ _) | (with_reducible refine below_rd ?_ ?_ _ _) | (with_reducible refine Below.drew ?_) | (with_reducible refine Below.setCell ?_ ?_ _) | go_size)⟩
theorem specSurdIm_no (x : C8) (w : World) (h : siOk x = false) :
    Calls Try.prog 16 #[cv x] w fun e w' => e = .returned (.tuple #[sv 0 0 0 0, .bool false]) ∧ Below w.heap.size w w' := by
  rcases Bool.eq_false_or_eq_true (okC x) with h1 | h1
  · have h2 : okS x.im.a x.im.b x.im.c x.im.d = false := by simpa [siOk, okT, h1] using h
    clear h
    go_enter Try.func16, Try.ntmps16
    go_wp2_with (first
      | (go_at_call 57; refine (specCValid_any _ _).mono ?_; rintro e w' ⟨rfl, hb⟩; obtain ⟨os, d, rfl⟩ := more_of_below hb; clear hb)
      | (go_at_call 59; refine (l3Im_any _ (okC_lim h1) _).mono ?_; rintro e w' ⟨rfl, hb⟩; obtain ⟨os, d, rfl⟩ := more_of_below hb; clear hb)
      | (go_at_call 58; refine (done_no _ _ _ _ _ h2).mono ?_; rintro e w' ⟨rfl, hb⟩; obtain ⟨os, d, rfl⟩ := more_of_below hb; clear hb))
    go_returns
    exact ⟨rfl, by repeat' (first | (with_reducible exact Below.refl _ _) | (with_reducible assumption) | (with_reducible refine Below.alloc ?_ ?_ _) | (with_reducible refine below_more ?_ ?_ _ _) | (with_reducible refine below_rd ?_ ?_ _ _) | (with_reducible refine Below.drew ?_) | (with_reducible refine Below.setCell ?_ ?_ _) | go_size)⟩
  · clear h
    go_enter Try.func16, Try.ntmps16
    go_wp2_with (go_at_call 57; refine (specCValid_any _ _).mono ?_; rintro e w' ⟨rfl, hb⟩; obtain ⟨os, d, rfl⟩ := more_of_below hb; clear hb)
    go_returns
    exact ⟨rfl, by repeat' (first | (with_reducible exact Below.refl _ _) | (with_reducible assumption) | (with_reducible refine Below.alloc ?_ ?_ _) | (with_reducible refine below_more ?_ ?_ _ _) | (with_reducible refine below_rd ?_ ?_ _ _) | (with_reducible refine Below.drew ?_) | (with_reducible refine Below.setCell ?_ ?_ _) | go_size)⟩
theorem specSurdIm_any (x : C8) (w : World) :
    Calls Try.prog 16 #[cv x] w fun e w' => e = .returned (.tuple #[sS x.siR, .bool (siOk x)]) ∧ Below w.heap.size w w' := by
  rcases Bool.eq_false_or_eq_true (siOk x) with h | h
  · rw [h, show x.siR = x.im by simp [C8.siR, h]]; exact specSurdIm_yes x w h
  · rw [h, show x.siR = S4.zero by simp [C8.siR, h]]; exact specSurdIm_no x w h

set_option maxRecDepth 100000 in
set_option maxHeartbeats 1000000 in
theorem surdNorm_yes (x : C8) (w : World) (h : nmOk x = true) :
    Calls Try.prog 29 #[cv x] w fun e w' => e = .returned (.tuple #[sS x.nrm, .bool true]) ∧ Below w.heap.size w w' := by
  simp only [nmOk, Bool.and_eq_true] at h
  obtain ⟨⟨h1, h2⟩, h3⟩ := h
  have k1 : C8.miR x = x.mir := by rw [C8.miR, if_pos h1]
  have k2 : C8.tmR x x.mir = C8.mul x x.mir := by rw [C8.tmR, if_pos h2]
  have HL := Lib.hid (okC_lim (x := C8.mul x x.mir) (by simp only [tmOk, Bool.and_eq_true] at h2; exact h2.2))
  have H3 := Lib.hid (show okS x.nrm.a x.nrm.b x.nrm.c x.nrm.d = true from h3)
  clear h3
  go_enter Try.func29, Try.ntmps29
  go_wp2_with (first
    | (go_at_call 17; refine (cycMirror_any _ _).mono ?_; rintro e w' ⟨rfl, hb⟩; obtain ⟨os, d, rfl⟩ := more_of_below hb; clear hb)
    | (go_at_call 75; refine (cycTimes_any _ _ _).mono ?_; rintro e w' ⟨rfl, hb⟩; obtain ⟨os, d, rfl⟩ := more_of_below hb; clear hb)
    | (go_at_call 69; refine (cre_any _ HL.out _).mono ?_; rintro e w' ⟨rfl, hb⟩; obtain ⟨os, d, rfl⟩ := more_of_below hb; clear hb)
    | (go_at_call 56; refine (made_yes _ _ _ _ _ H3.out).mono ?_; rintro e w' ⟨rfl, hb⟩; obtain ⟨os, d, rfl⟩ := more_of_below hb; clear hb))
  go_returns
  exact ⟨rfl, by repeat' (first | (with_reducible exact Below.refl _ _) | (with_reducible assumption) | (with_reducible refine Below.alloc ?_ ?_ _) | (with_reducible refine below_more ?_ ?_ _ _) | (with_reducible refine below_rd ?_ ?_ _ _) | (with_reducible refine Below.drew ?_) | (with_reducible refine Below.setCell ?_ ?_ _) | go_size)⟩
set_option maxRecDepth 100000 in
set_option maxHeartbeats 1000000 in
theorem surdNorm_no (x : C8) (w : World) (h : nmOk x = false) :
    Calls Try.prog 29 #[cv x] w fun e w' => e = .returned (.tuple #[sv 0 0 0 0, .bool false]) ∧ Below w.heap.size w w' := by
  rcases Bool.eq_false_or_eq_true (miOk x) with h1 | h1
  · have k1 : C8.miR x = x.mir := by rw [C8.miR, if_pos h1]
    rcases Bool.eq_false_or_eq_true (tmOk x x.mir) with h2 | h2
    · have k2 : C8.tmR x x.mir = C8.mul x x.mir := by rw [C8.tmR, if_pos h2]
      have HL := Lib.hid (okC_lim (x := C8.mul x x.mir) (by simp only [tmOk, Bool.and_eq_true] at h2; exact h2.2))
      have H3 := Lib.hid (show okS x.nrm.a x.nrm.b x.nrm.c x.nrm.d = false by simpa [nmOk, okT, h1, h2] using h)
      clear h
      go_enter Try.func29, Try.ntmps29
      go_wp2_with (first
        | (go_at_call 17; refine (cycMirror_any _ _).mono ?_; rintro e w' ⟨rfl, hb⟩; obtain ⟨os, d, rfl⟩ := more_of_below hb; clear hb)
        | (go_at_call 75; refine (cycTimes_any _ _ _).mono ?_; rintro e w' ⟨rfl, hb⟩; obtain ⟨os, d, rfl⟩ := more_of_below hb; clear hb)
        | (go_at_call 69; refine (cre_any _ HL.out _).mono ?_; rintro e w' ⟨rfl, hb⟩; obtain ⟨os, d, rfl⟩ := more_of_below hb; clear hb)
        | (go_at_call 56; refine (made_no _ _ _ _ _ H3.out).mono ?_; rintro e w' ⟨rfl, hb⟩; obtain ⟨os, d, rfl⟩ := more_of_below hb; clear hb))
      go_returns
      exact ⟨rfl, by repeat' (first | (with_reducible exact Below.refl _ _) | (with_reducible assumption) | (with_reducible refine Below.alloc ?_ ?_ _) | (with_reducible refine below_more ?_ ?_ _ _) | (with_reducible refine below_rd ?_ ?_ _ _) | (with_reducible refine Below.drew ?_) | (with_reducible refine Below.setCell ?_ ?_ _) | go_size)⟩
    · clear h
      go_enter Try.func29, Try.ntmps29
      go_wp2_with (first
        | (go_at_call 17; refine (cycMirror_any _ _).mono ?_; rintro e w' ⟨rfl, hb⟩; obtain ⟨os, d, rfl⟩ := more_of_below hb; clear hb)
        | (go_at_call 75; refine (cycTimes_any _ _ _).mono ?_; rintro e w' ⟨rfl, hb⟩; obtain ⟨os, d, rfl⟩ := more_of_below hb; clear hb))
      go_returns
      exact ⟨rfl, by repeat' (first | (with_reducible exact Below.refl _ _) | (with_reducible assumption) | (with_reducible refine Below.alloc ?_ ?_ _) | (with_reducible refine below_more ?_ ?_ _ _) | (with_reducible refine below_rd ?_ ?_ _ _) | (with_reducible refine Below.drew ?_) | (with_reducible refine Below.setCell ?_ ?_ _) | go_size)⟩
  · clear h
    go_enter Try.func29, Try.ntmps29
    go_wp2_with (first
      | (go_at_call 17; refine (cycMirror_any _ _).mono ?_; rintro e w' ⟨rfl, hb⟩; obtain ⟨os, d, rfl⟩ := more_of_below hb; clear hb)
      | (go_at_call 75; refine (cycTimes_any _ _ _).mono ?_; rintro e w' ⟨rfl, hb⟩; obtain ⟨os, d, rfl⟩ := more_of_below hb; clear hb))
    all_goals
      go_returns
      exact ⟨rfl, by repeat' (first | (with_reducible exact Below.refl _ _) | (with_reducible assumption) | (with_reducible refine Below.alloc ?_ ?_ _) | (with_reducible refine below_more ?_ ?_ _ _) | (with_reducible refine below_rd ?_ ?_ _ _) | (with_reducible refine Below.drew ?_) | (with_reducible refine Below.setCell ?_ ?_ _) | go_size)⟩
theorem surdNorm_any (x : C8) (w : World) :
    Calls Try.prog 29 #[cv x] w fun e w' => e = .returned (.tuple #[sS x.nmR, .bool (nmOk x)]) ∧ Below w.heap.size w w' := by
  rcases Bool.eq_false_or_eq_true (nmOk x) with h | h
  · rw [h, show x.nmR = x.nrm by simp [C8.nmR, h]]; exact surdNorm_yes x w h
  · rw [h, show x.nmR = S4.zero by simp [C8.nmR, h]]; exact surdNorm_no x w h

set_option maxRecDepth 100000 in
set_option maxHeartbeats 1000000 in
theorem specSurdNorm_yes (x : C8) (w : World) (h : nmOk x = true) :
    Calls Try.prog 28 #[cv x] w fun e w' => e = .returned (.tuple #[sS x.nrm, .bool true]) ∧ Below w.heap.size w w' := by
  simp only [nmOk, Bool.and_eq_true] at h
  obtain ⟨⟨h1, h2⟩, h3⟩ := h
  have k1 : C8.miR x = x.mir := by rw [C8.miR, if_pos h1]
  have k2 : C8.tmR x x.mir = C8.mul x x.mir := by rw [C8.tmR, if_pos h2]
  have HL := Lib.hid (okC_lim (x := C8.mul x x.mir) (by simp only [tmOk, Bool.and_eq_true] at h2; exact h2.2))
  have H3 := Lib.hid (show okS x.nrm.a x.nrm.b x.nrm.c x.nrm.d = true from h3)
  clear h3
  go_enter Try.func28, Try.ntmps28
  go_wp2_with (first
    | (go_at_call 73; refine (specCycMirror_any _ _).mono ?_; rintro e w' ⟨rfl, hb⟩; obtain ⟨os, d, rfl⟩ := more_of_below hb; clear hb)
    | (go_at_call 74; refine (specCycTimes_any _ _ _).mono ?_; rintro e w' ⟨rfl, hb⟩; obtain ⟨os, d, rfl⟩ := more_of_below hb; clear hb)
    | (go_at_call 70; refine (l3Re_any _ HL.out _).mono ?_; rintro e w' ⟨rfl, hb⟩; obtain ⟨os, d, rfl⟩ := more_of_below hb; clear hb)
    | (go_at_call 58; refine (done_yes _ _ _ _ _ H3.out).mono ?_; rintro e w' ⟨rfl, hb⟩; obtain ⟨os, d, rfl⟩ := more_of_below hb; clear hb))
  go_returns
  exact ⟨rfl, by repeat' (first | (with_reducible exact Below.refl _ _) | (with_reducible assumption) | (with_reducible refine Below.alloc ?_ ?_ _) | (with_reducible refine below_more ?_ ?_ _ _) | (with_reducible refine below_rd ?_ ?_ _ _) | (with_reducible refine Below.drew ?_) | (with_reducible refine Below.setCell ?_ ?_ _) | go_size)⟩
set_option maxRecDepth 100000 in
set_option maxHeartbeats 1000000 in
theorem specSurdNorm_no (x : C8) (w : World) (h : nmOk x = false) :
    Calls Try.prog 28 #[cv x] w fun e w' => e = .returned (.tuple #[sv 0 0 0 0, .bool false]) ∧ Below w.heap.size w w' := by
  rcases Bool.eq_false_or_eq_true (miOk x) with h1 | h1
  · have k1 : C8.miR x = x.mir := by rw [C8.miR, if_pos h1]
    rcases Bool.eq_false_or_eq_true (tmOk x x.mir) with h2 | h2
    · have k2 : C8.tmR x x.mir = C8.mul x x.mir := by rw [C8.tmR, if_pos h2]
      have HL := Lib.hid (okC_lim (x := C8.mul x x.mir) (by simp only [tmOk, Bool.and_eq_true] at h2; exact h2.2))
      have H3 := Lib.hid (show okS x.nrm.a x.nrm.b x.nrm.c x.nrm.d = false by simpa [nmOk, okT, h1, h2] using h)
      clear h
      go_enter Try.func28, Try.ntmps28
      go_wp2_with (first
        | (go_at_call 73; refine (specCycMirror_any _ _).mono ?_; rintro e w' ⟨rfl, hb⟩; obtain ⟨os, d, rfl⟩ := more_of_below hb; clear hb)
        | (go_at_call 74; refine (specCycTimes_any _ _ _).mono ?_; rintro e w' ⟨rfl, hb⟩; obtain ⟨os, d, rfl⟩ := more_of_below hb; clear hb)
        | (go_at_call 70; refine (l3Re_any _ HL.out _).mono ?_; rintro e w' ⟨rfl, hb⟩; obtain ⟨os, d, rfl⟩ := more_of_below hb; clear hb)
        | (go_at_call 58; refine (done_no _ _ _ _ _ H3.out).mono ?_; rintro e w' ⟨rfl, hb⟩; obtain ⟨os, d, rfl⟩ := more_of_below hb; clear hb))
      go_returns
      exact ⟨rfl, by repeat' (first | (with_reducible exact Below.refl _ _) | (with_reducible assumption) | (with_reducible refine Below.alloc ?_ ?_ _) | (with_reducible refine below_more ?_ ?_ _ _) | (with_reducible refine below_rd ?_ ?_ _ _) | (with_reducible refine Below.drew ?_) | (with_reducible refine Below.setCell ?_ ?_ _) | go_size)⟩
    · clear h
      go_enter Try.func28, Try.ntmps28
      go_wp2_with (first
        | (go_at_call 73; refine (specCycMirror_any _ _).mono ?_; rintro e w' ⟨rfl, hb⟩; obtain ⟨os, d, rfl⟩ := more_of_below hb; clear hb)
        | (go_at_call 74; refine (specCycTimes_any _ _ _).mono ?_; rintro e w' ⟨rfl, hb⟩; obtain ⟨os, d, rfl⟩ := more_of_below hb; clear hb))
      go_returns
      exact ⟨rfl, by repeat' (first | (with_reducible exact Below.refl _ _) | (with_reducible assumption) | (with_reducible refine Below.alloc ?_ ?_ _) | (with_reducible refine below_more ?_ ?_ _ _) | (with_reducible refine below_rd ?_ ?_ _ _) | (with_reducible refine Below.drew ?_) | (with_reducible refine Below.setCell ?_ ?_ _) | go_size)⟩
  · clear h
    go_enter Try.func28, Try.ntmps28
    go_wp2_with (first
      | (go_at_call 73; refine (specCycMirror_any _ _).mono ?_; rintro e w' ⟨rfl, hb⟩; obtain ⟨os, d, rfl⟩ := more_of_below hb; clear hb)
      | (go_at_call 74; refine (specCycTimes_any _ _ _).mono ?_; rintro e w' ⟨rfl, hb⟩; obtain ⟨os, d, rfl⟩ := more_of_below hb; clear hb))
    all_goals
      go_returns
      exact ⟨rfl, by repeat' (first | (with_reducible exact Below.refl _ _) | (with_reducible assumption) | (with_reducible refine Below.alloc ?_ ?_ _) | (with_reducible refine below_more ?_ ?_ _ _) | (with_reducible refine below_rd ?_ ?_ _ _) | (with_reducible refine Below.drew ?_) | (with_reducible refine Below.setCell ?_ ?_ _) | go_size)⟩
theorem specSurdNorm_any (x : C8) (w : World) :
    Calls Try.prog 28 #[cv x] w fun e w' => e = .returned (.tuple #[sS x.nmR, .bool (nmOk x)]) ∧ Below w.heap.size w w' := by
  rcases Bool.eq_false_or_eq_true (nmOk x) with h | h
  · rw [h, show x.nmR = x.nrm by simp [C8.nmR, h]]; exact specSurdNorm_yes x w h
  · rw [h, show x.nmR = S4.zero by simp [C8.nmR, h]]; exact specSurdNorm_no x w h

end Go.Proofs.Ytklmlodapinflaa
