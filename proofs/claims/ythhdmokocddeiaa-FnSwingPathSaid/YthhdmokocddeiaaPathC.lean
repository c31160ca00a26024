/- SwingPath of the program and of the reference, at whatever arguments; samePoints of the laws. -/
import Derived.Test.YthhdmokocddeiaaPathB
namespace Go.Proofs.Ythhdmokocddeiaa
open Go.RowKit

set_option maxRecDepth 100000 in
set_option maxHeartbeats 1000000 in
theorem swingPath_any (z : Z2) (t s n : Int) (h1 : z.1 < 4294967296) (h2 : z.2 < 4294967296) (w : World) :
    Calls Try.prog 31 #[swv z.1 z.2 t s, .int .i64 n] w (PathPost w z t s n) := by
  rcases Bool.eq_false_or_eq_true (swOk z.1 z.2 t s) with hv | hv
  · rcases Bool.eq_false_or_eq_true (inB n 1 100) with hk | hk
    · obtain ⟨hz, t', s', rfl, rfl, ht, hs⟩ := swOk_get h1 h2 hv
      have hk' := inB_iff.1 hk
      obtain ⟨k', rfl⟩ := Int.eq_ofNat_of_zero_le (show 0 ≤ n by omega)
      exact swingPath_yes z t' s' k' hz ht hs (by omega) (by omega) hv w
    · have HO := Lib.hid (show spOk z t s n = false by rw [spOk, hk, Bool.and_false]; rfl)
      go_enter Try.func31, Try.ntmps31
      go_wp2_with (first
        | (go_at_call 15; refine (swingValid_any _ _ _ _ _).mono ?_; rintro e w' ⟨rfl, hb⟩; obtain ⟨os, d, rfl⟩ := more_of_below hb; clear hb)
        | (go_at_call 42; refine (within_any _ _ _ _).mono ?_; rintro e w' ⟨rfl, rfl⟩))
      go_returns
      exact PathPost.no HO.out (by repeat' (first | (with_reducible exact Below.refl _ _) | (with_reducible assumption) | (with_reducible refine Below.alloc ?_ ?_ _) | (with_reducible refine below_more ?_ ?_ _ _) | (with_reducible refine below_rd ?_ ?_ _ _) | (with_reducible refine Below.drew ?_) | (with_reducible refine Below.setCell ?_ ?_ _) | go_size))
  · have HO := Lib.hid (show spOk z t s n = false by rw [spOk, hv]; rfl)
    go_enter Try.func31, Try.ntmps31
    go_wp2_with (go_at_call 15; refine (swingValid_any _ _ _ _ _).mono ?_; rintro e w' ⟨rfl, hb⟩; obtain ⟨os, d, rfl⟩ := more_of_below hb; clear hb)
    go_returns
    exact PathPost.no HO.out (by repeat' (first | (with_reducible exact Below.refl _ _) | (with_reducible assumption) | (with_reducible refine Below.alloc ?_ ?_ _) | (with_reducible refine below_more ?_ ?_ _ _) | (with_reducible refine below_rd ?_ ?_ _ _) | (with_reducible refine Below.drew ?_) | (with_reducible refine Below.setCell ?_ ?_ _) | go_size))
set_option maxRecDepth 100000 in
set_option maxHeartbeats 1000000 in
theorem specSwingPath_any (z : Z2) (t s n : Int) (h1 : z.1 < 4294967296) (h2 : z.2 < 4294967296) (w : World) :
    Calls Try.prog 32 #[swv z.1 z.2 t s, .int .i64 n] w (PathPost w z t s n) := by
  rcases Bool.eq_false_or_eq_true (swOk z.1 z.2 t s) with hv | hv
  · rcases Bool.eq_false_or_eq_true (inB n 1 100) with hk | hk
    · obtain ⟨hz, t', s', rfl, rfl, ht, hs⟩ := swOk_get h1 h2 hv
      have hk' := inB_iff.1 hk
      obtain ⟨k', rfl⟩ := Int.eq_ofNat_of_zero_le (show 0 ≤ n by omega)
      exact specSwingPath_yes z t' s' k' hz ht hs (by omega) (by omega) hv w
    · have HO := Lib.hid (show spOk z t s n = false by rw [spOk, hk, Bool.and_false]; rfl)
      go_enter Try.func32, Try.ntmps32
      go_wp2_with (first
        | (go_at_call 16; refine (specSwingValid_any _ _ _ _ h1 h2 _).mono ?_; rintro e w' ⟨rfl, hb⟩; obtain ⟨os, d, rfl⟩ := more_of_below hb; clear hb)
        | (go_at_call 43; refine (l6In_any _ _ _ _).mono ?_; rintro e w' ⟨rfl, rfl⟩))
      go_returns
      exact PathPost.no HO.out (by repeat' (first | (with_reducible exact Below.refl _ _) | (with_reducible assumption) | (with_reducible refine Below.alloc ?_ ?_ _) | (with_reducible refine below_more ?_ ?_ _ _) | (with_reducible refine below_rd ?_ ?_ _ _) | (with_reducible refine Below.drew ?_) | (with_reducible refine Below.setCell ?_ ?_ _) | go_size))
  · have HO := Lib.hid (show spOk z t s n = false by rw [spOk, hv]; rfl)
    go_enter Try.func32, Try.ntmps32
    go_wp2_with (go_at_call 16; refine (specSwingValid_any _ _ _ _ h1 h2 _).mono ?_; rintro e w' ⟨rfl, hb⟩; obtain ⟨os, d, rfl⟩ := more_of_below hb; clear hb)
    go_returns
    exact PathPost.no HO.out (by repeat' (first | (with_reducible exact Below.refl _ _) | (with_reducible assumption) | (with_reducible refine Below.alloc ?_ ?_ _) | (with_reducible refine below_more ?_ ?_ _ _) | (with_reducible refine below_rd ?_ ?_ _ _) | (with_reducible refine Below.drew ?_) | (with_reducible refine Below.setCell ?_ ?_ _) | go_size))

theorem zrow_more {w : World} {g n : Nat} {f : Nat → Z2} (h : ZRow w g n f) (hg : g < w.heap.size) (os : Array Obj) (d : Nat) : ZRow (more w os d) g n f := fun i hi => (cell?_more g i hg).trans (h i hi)
theorem zrow_later {w : World} {g n : Nat} {f : Nat → Z2} {os : Array Obj} {d : Nat} (h : ZRow (more w os d) g n f) (hg : g < (more w os d).heap.size) (os' : Array Obj) (d' : Nat) : ZRow (more w (os ++ os') d') g n f := by
  have e : more w (os ++ os') d' = more (more w os d) os' d' := by rw [more_more]
  rw [e]; exact zrow_more h hg os' d'
theorem zrow_merge {w : World} {g n : Nat} {f : Nat → Z2} {os os' : Array Obj} {d d' : Nat} (h : ZRow (more (more w os d) os' d') g n f) : ZRow (more w (os ++ os') d') g n f := by
  rw [more_more] at h; exact h
set_option maxRecDepth 100000 in
set_option maxHeartbeats 1000000 in
theorem samePoints_any (a b ca cb n : Nat) (f : Nat → Z2) (hf : ∀ i, NN32 (f i).1 ∧ NN32 (f i).2) (w : World) (h1 : ZRow w a n f) (h2 : ZRow w b n f) (hn : n ≤ 1000) :
    Calls Try.prog 33 #[.slice (some ⟨a, 0, none⟩) n ca, .slice (some ⟨b, 0, none⟩) n cb] w fun e w' => e = .returned (.bool true) ∧ Below w.heap.size w w' := by
  have HA := Lib.hid h1
  have HB := Lib.hid h2
  have HF := Lib.hid hf
  clear h1 h2 hf
  go_enter Try.func33, Try.ntmps33
  go_wp2
  go_loopw [5] (fun s wr => ∃ k : Nat, k ≤ n ∧ s = .int .i64 k ∧ ∃ d, wr = more w #[] d) (fun s _ => n - (intOf s).toNat)
  case atStart => exact ⟨0, by omega, rfl, _, more_self _⟩
  case round =>
    obtain ⟨k, hk, rfl, d, rfl⟩ := hrel
    by_cases hlt : k < n
    · have ca := HA.out k hlt
      have cb := HB.out k hlt
      obtain ⟨x, hx⟩ : ∃ x, f k = x := ⟨_, rfl⟩
      have HX := Lib.hid (show NN32 x.1 ∧ NN32 x.2 by rw [← hx]; exact HF.out k)
      rw [hx] at ca cb
      clear hx
      have ga := block_lt_of_cell ca
      have gb := block_lt_of_cell cb
      go_wp2_with fail
      go_region_held3 (fun w' => w'.cell? ⟨a, k, none⟩ = some (.complex .f32 x.1 x.2) ∧ w'.cell? ⟨b, k, none⟩ = some (.complex .f32 x.1 x.2)) (simp [go_sem, *])
        (first | (go_at_call 18; refine (singleAlike_same _ _ HX.out.1 HX.out.2 _).mono ?_; rintro e w' ⟨rfl, rfl⟩))
      all_goals
        go_wp2
        go_roundw
        case rel => exact ⟨k + 1, by omega, by go_num, _, rfl⟩
        case measure => simp [intOf]; omega
    · obtain rfl : k = n := by omega
      go_wp2
      go_returns
      exact ⟨rfl, by repeat' (first | (with_reducible exact Below.refl _ _) | (with_reducible assumption) | (with_reducible refine Below.alloc ?_ ?_ _) | (with_reducible refine below_more ?_ ?_ _ _) | (with_reducible refine below_rd ?_ ?_ _ _) | (with_reducible refine Below.drew ?_) | (with_reducible refine Below.setCell ?_ ?_ _) | go_size)⟩
theorem samePoints_nil (a b : Option Addr) (w : World) :
    Calls Try.prog 33 #[.slice a 0 0, .slice b 0 0] w fun e w' => e = .returned (.bool true) ∧ w = w' := by
  go_enter Try.func33, Try.ntmps33
  go_wp2
  go_rounds 1
  all_goals
    go_returns
    exact ⟨rfl, rfl⟩
end Go.Proofs.Ythhdmokocddeiaa
