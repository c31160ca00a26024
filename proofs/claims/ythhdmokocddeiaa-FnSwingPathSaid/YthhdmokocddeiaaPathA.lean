/- Paths of complex numbers: PathValid of the program and of the reference. -/
import Derived.Test.YthhdmokocddeiaaSwingD
import Derived.Deep.RegionHeld3
namespace Go.Proofs.Ythhdmokocddeiaa
open Go.RowKit

/-- A part of a path. -/
def partB (x : Nat) : Bool := ((FloatKind.f32.format.order x 3313500160 == some .gt) || (FloatKind.f32.format.order x 3313500160 == some .eq)) && ((FloatKind.f32.format.order x 1166016512 == some .lt) || (FloatKind.f32.format.order x 1166016512 == some .eq))
def pvZ (z : Z2) : Bool := partB z.1 && partB z.2
set_option maxRecDepth 100000 in
theorem partValid_any (x : Nat) (w : World) :
    Calls Try.prog 67 #[.float .f32 x] w fun e w' => e = .returned (.bool (partB x)) ∧ w = w' := by
  rcases Bool.eq_false_or_eq_true ((FloatKind.f32.format.order x 3313500160 == some .gt) || (FloatKind.f32.format.order x 3313500160 == some .eq)) with h1 | h1
  · have ht : partB x = ((FloatKind.f32.format.order x 1166016512 == some .lt) || (FloatKind.f32.format.order x 1166016512 == some .eq)) := by rw [partB, h1, Bool.true_and]
    have HT := Lib.hid ht
    clear ht
    go_enter Try.func67, Try.ntmps67
    go_wp2
    go_ret
    exact ⟨by rw [HT.out]; rfl, rfl⟩
  · have ht : partB x = false := by rw [partB, h1, Bool.false_and]
    have HT := Lib.hid ht
    clear ht
    go_enter Try.func67, Try.ntmps67
    go_wp2
    go_ret
    exact ⟨by rw [HT.out]; rfl, rfl⟩
set_option maxRecDepth 100000 in
theorem l10Part_any (x : Nat) (w : World) :
    Calls Try.prog 62 #[.float .f32 x] w fun e w' => e = .returned (.bool (partB x)) ∧ w = w' := by
  rcases Bool.eq_false_or_eq_true ((FloatKind.f32.format.order x 3313500160 == some .gt) || (FloatKind.f32.format.order x 3313500160 == some .eq)) with h1 | h1
  · have ht : partB x = ((FloatKind.f32.format.order x 1166016512 == some .lt) || (FloatKind.f32.format.order x 1166016512 == some .eq)) := by rw [partB, h1, Bool.true_and]
    have HT := Lib.hid ht
    clear ht
    go_enter Try.func62, Try.ntmps62
    go_wp2
    go_ret
    exact ⟨by rw [HT.out]; rfl, rfl⟩
  · have ht : partB x = false := by rw [partB, h1, Bool.false_and]
    have HT := Lib.hid ht
    clear ht
    go_enter Try.func62, Try.ntmps62
    go_wp2
    go_ret
    exact ⟨by rw [HT.out]; rfl, rfl⟩

set_option maxRecDepth 100000 in
theorem pointValid_any (z : Z2) (w : World) :
    Calls Try.prog 65 #[zv z] w fun e w' => e = .returned (.bool (pvZ z)) ∧ w = w' := by
  rcases Bool.eq_false_or_eq_true (partB z.1) with h1 | h1
  · have HO := Lib.hid (show pvZ z = partB z.2 by simp [pvZ, h1])
    go_enter Try.func65, Try.ntmps65
    go_wp2_with (go_at_call 67; refine (partValid_any _ _).mono ?_; rintro e w' ⟨rfl, rfl⟩)
    go_ret
    exact ⟨by rw [HO.out]; rfl, rfl⟩
  · have HO := Lib.hid (show pvZ z = false by simp [pvZ, h1])
    go_enter Try.func65, Try.ntmps65
    go_wp2_with (go_at_call 67; refine (partValid_any _ _).mono ?_; rintro e w' ⟨rfl, rfl⟩)
    go_ret
    exact ⟨by rw [HO.out]; rfl, rfl⟩
set_option maxRecDepth 100000 in
theorem pathValid1_any (z : Z2) (w : World) :
    Calls Try.prog 64 #[zv z] w fun e w' => e = .returned (.bool (!pvZ z)) ∧ w = w' := by
  go_enter Try.func64, Try.ntmps64
  go_wp2_with (go_at_call 65; refine (pointValid_any _ _).mono ?_; rintro e w' ⟨rfl, rfl⟩)
  go_ret
  exact ⟨rfl, rfl⟩
/-- All of the first n are points of a path. -/
def pvAll (f : Nat → Z2) (n : Nat) : Bool := (List.range n).all fun i => pvZ (f i)
theorem pvAll_iff {f : Nat → Z2} {n : Nat} : pvAll f n = true ↔ ∀ i, i < n → pvZ (f i) = true := by simp [pvAll, List.all_eq_true]
theorem pvAll_no {f : Nat → Z2} {n i : Nat} (hi : i < n) (h : pvZ (f i) = false) : pvAll f n = false := by
  rcases Bool.eq_false_or_eq_true (pvAll f n) with h1 | h1
  · rw [pvAll_iff.1 h1 i hi] at h; cases h
  · exact h1
/-- A block that holds the first n numbers. -/
def ZRow (w : World) (g n : Nat) (f : Nat → Z2) : Prop := ∀ i, i < n → w.cell? ⟨g, i, none⟩ = some (zv (f i))
def FoundZ (w : World) (f : Nat → Z2) (n : Nat) (e : Ending) (w' : World) : Prop := (∃ r : Int, e = .returned (.int .i64 r) ∧ -1 ≤ r ∧ ((0 ≤ r) ↔ pvAll f n = false)) ∧ w = w'
set_option maxRecDepth 100000 in
set_option maxHeartbeats 1000000 in
theorem indexZ_any (g cap n : Nat) (f : Nat → Z2) (w : World) (h : ZRow w g n f) (hn : n ≤ 1000) :
    Calls Try.prog 66 #[.slice (some ⟨g, 0, none⟩) n cap, .func (.func 64) #[] #[]] w (FoundZ w f n) := by
  have HP := Lib.hid h
  clear h
  go_enter Try.func66, Try.ntmps66
  go_wp2
  go_loop [8] (fun s => ∃ k : Nat, k ≤ n ∧ s = .int .i64 k ∧ Hid (∀ i, i < k → pvZ (f i) = true)) (fun s => n - (intOf s).toNat)
  case atStart => exact ⟨0, by omega, rfl, fun i hi => by omega⟩
  case round =>
    obtain ⟨k, hk, rfl, hall⟩ := hrel
    by_cases hlt : k < n
    · have ck := HP.out k hlt
      rcases Bool.eq_false_or_eq_true (pvZ (f k)) with hp | hp
      · go_wp2_with (go_at_call 64; refine (pathValid1_any _ _).mono ?_; rintro e w' ⟨rfl, rfl⟩)
        go_round
        case rel => exact ⟨k + 1, by omega, by go_num, fun j hj => by rcases Nat.lt_succ_iff_lt_or_eq.1 hj with h | rfl; exact hall.out j h; exact hp⟩
        case measure => simp [intOf]; omega
      · have HO := Lib.hid (pvAll_no (n := n) hlt hp)
        go_wp2_with (go_at_call 64; refine (pathValid1_any _ _).mono ?_; rintro e w' ⟨rfl, rfl⟩)
        go_returns
        exact ⟨⟨k, rfl, by omega, by rw [HO.out]; exact ⟨fun _ => rfl, fun _ => by omega⟩⟩, rfl⟩
    · obtain rfl : k = n := by omega
      have HO := Lib.hid (pvAll_iff.2 hall.out)
      go_wp2
      go_returns
      exact ⟨⟨-1, rfl, by omega, by rw [HO.out]; decide⟩, rfl⟩
theorem containsZ_any (g cap n : Nat) (f : Nat → Z2) (w : World) (h : ZRow w g n f) (hn : n ≤ 1000) :
    Calls Try.prog 63 #[.slice (some ⟨g, 0, none⟩) n cap, .func (.func 64) #[] #[]] w fun e w' => e = .returned (.bool (!pvAll f n)) ∧ w = w' := by
  rcases Bool.eq_false_or_eq_true (pvAll f n) with hv | hv
  all_goals
    rw [hv]
    go_enter Try.func63, Try.ntmps63
    go_wp2_with fail
    refine (indexZ_any g cap n f _ h hn).mono ?_
    rintro e w' ⟨⟨r, rfl, hr, hiff⟩, rfl⟩
    rw [hv] at hiff
  · have hr2 : ¬ (0 ≤ r) := fun h0 => by have := hiff.1 h0; cases this
    clear hiff
    go_wp2
    go_ret
    exact ⟨by show Ending.returned (.bool (decide (0 ≤ r))) = _; rw [decide_eq_false (show ¬ (0 ≤ r) by omega)]; rfl, rfl⟩
  · have hr2 : 0 ≤ r := hiff.2 rfl
    clear hiff
    go_wp2
    go_ret
    exact ⟨rfl, rfl⟩
set_option maxRecDepth 100000 in
theorem pathValid_any (g cap n : Nat) (f : Nat → Z2) (w : World) (h : ZRow w g n f) (h1 : 1 ≤ n) (hn : n ≤ 100) :
    Calls Try.prog 61 #[.slice (some ⟨g, 0, none⟩) n cap] w fun e w' => e = .returned (.bool (pvAll f n)) ∧ w = w' := by
  have HP := Lib.hid h
  have hin : inB n 1 100 = true := inB_iff.2 ⟨by omega, by omega⟩
  clear h
  go_enter Try.func61, Try.ntmps61
  go_wp2_with (first
    | (go_at_call 42; refine (within_any _ _ _ _).mono ?_; rintro e w' ⟨rfl, rfl⟩)
    | (go_at_call 63; refine (containsZ_any g cap n f _ HP.out (by omega)).mono ?_; rintro e w' ⟨rfl, rfl⟩))
  go_ret
  exact ⟨by simp, rfl⟩
/-- What pathMade gives. -/
def pmV (g n : Nat) (b : Bool) : Value := if b = true then .tuple #[.slice (some ⟨g, 0, none⟩) n n, .bool true] else .tuple #[.slice none 0 0, .bool false]
set_option maxRecDepth 100000 in
theorem pathMade_any (g cap n : Nat) (f : Nat → Z2) (w : World) (h : ZRow w g n f) (h1 : 1 ≤ n) (hn : n ≤ 100) (hc : n ≤ cap) :
    Calls Try.prog 54 #[.slice (some ⟨g, 0, none⟩) n cap] w fun e w' => e = .returned (pmV g n (pvAll f n)) ∧ w = w' := by
  have HP := Lib.hid h
  clear h
  rcases Bool.eq_false_or_eq_true (pvAll f n) with hv | hv
  all_goals
    have HV := Lib.hid hv
    go_enter Try.func54, Try.ntmps54
    go_wp2_with (go_at_call 61; refine (pathValid_any g cap n f _ HP.out h1 hn).mono ?_; rintro e w' ⟨rfl, rfl⟩)
    go_returns
    exact ⟨by rw [HV.out]; rfl, rfl⟩
set_option maxRecDepth 100000 in
set_option maxHeartbeats 1000000 in
theorem specPathValid_any (g cap n : Nat) (f : Nat → Z2) (w : World) (h : ZRow w g n f) (h1 : 1 ≤ n) (hn : n ≤ 100) :
    Calls Try.prog 55 #[.slice (some ⟨g, 0, none⟩) n cap] w fun e w' => e = .returned (.bool (pvAll f n)) ∧ w = w' := by
  have HP := Lib.hid h
  have hin : inB n 1 100 = true := inB_iff.2 ⟨by omega, by omega⟩
  clear h
  go_enter Try.func55, Try.ntmps55
  go_wp2
  go_loop [3] (fun s => ∃ k : Nat, k ≤ n ∧ s = .int .i64 k ∧ Hid (∀ i, i < k → pvZ (f i) = true)) (fun s => n - (intOf s).toNat)
  case atStart => exact ⟨0, by omega, rfl, fun i hi => by omega⟩
  case round =>
    obtain ⟨k, hk, rfl, hall⟩ := hrel
    by_cases hlt : k < n
    · have ck := HP.out k hlt
      rcases Bool.eq_false_or_eq_true (partB (f k).1) with hp1 | hp1
      · rcases Bool.eq_false_or_eq_true (partB (f k).2) with hp2 | hp2
        · have hp : pvZ (f k) = true := by rw [pvZ, hp1, hp2]; rfl
          have HPK := Lib.hid hp
          clear hp
          go_wp2_with (go_at_call 62; refine (l10Part_any _ _).mono ?_; rintro e w' ⟨rfl, rfl⟩)
          go_round
          case rel => exact ⟨k + 1, by omega, by go_num, fun j hj => by rcases Nat.lt_succ_iff_lt_or_eq.1 hj with h | rfl; exact hall.out j h; exact HPK.out⟩
          case measure => simp [intOf]; omega
        · have HO := Lib.hid (pvAll_no (n := n) hlt (show pvZ (f k) = false by rw [pvZ, hp2, Bool.and_false]))
          go_wp2_with (go_at_call 62; refine (l10Part_any _ _).mono ?_; rintro e w' ⟨rfl, rfl⟩)
          go_returns
          exact ⟨by rw [HO.out]; rfl, rfl⟩
      · have HO := Lib.hid (pvAll_no (n := n) hlt (show pvZ (f k) = false by rw [pvZ, hp1, Bool.false_and]))
        go_wp2_with (go_at_call 62; refine (l10Part_any _ _).mono ?_; rintro e w' ⟨rfl, rfl⟩)
        go_returns
        exact ⟨by rw [HO.out]; rfl, rfl⟩
    · obtain rfl : k = n := by omega
      have HO := Lib.hid (pvAll_iff.2 hall.out)
      go_wp2_with (go_at_call 43; refine (l6In_any _ _ _ _).mono ?_; rintro e w' ⟨rfl, rfl⟩)
      go_returns
      exact ⟨by rw [HO.out]; rfl, rfl⟩
end Go.Proofs.Ythhdmokocddeiaa
