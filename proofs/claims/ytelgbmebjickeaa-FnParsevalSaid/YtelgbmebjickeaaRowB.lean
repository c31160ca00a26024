/- Rows of points: RowValid, of the program and of the reference. -/
import Derived.Test.YtelgbmebjickeaaRowA
namespace Go.Proofs.Ytelgbmebjickeaa
open Go.RowKit

/-- The length of a row. -/
def rwLen (n : Nat) : Bool := decide (1 ≤ n) && decide (24 % n = 0)
theorem rwLen_iff {n : Nat} : rwLen n = true ↔ 1 ≤ n ∧ 24 % n = 0 := by simp [rwLen]
theorem rwLen_le {n : Nat} (h : rwLen n = true) : 1 ≤ n ∧ n ≤ 24 := by
  obtain ⟨h1, h2⟩ := rwLen_iff.1 h
  refine ⟨h1, Classical.byContradiction fun h3 => ?_⟩
  rw [Nat.mod_eq_of_lt (by omega)] at h2; omega
/-- All points are valid. -/
def okAll (xs : List C8) : Bool := xs.all okC
def rvOk (xs : List C8) : Bool := rwLen xs.length && okAll xs
theorem okAll_iff {xs : List C8} : okAll xs = true ↔ ∀ i, i < xs.length → okC (xs.getD i C8.zero) = true := by
  unfold okAll
  rw [List.all_eq_true]
  constructor
  · intro h i hi
    apply h
    rw [List.getD_eq_getElem?_getD, List.getElem?_eq_getElem hi]; exact List.getElem_mem _
  · intro h x hx
    obtain ⟨i, hi, rfl⟩ := List.getElem_of_mem hx
    have := h i hi
    rw [List.getD_eq_getElem?_getD, List.getElem?_eq_getElem hi] at this
    exact this
theorem okAll_no {xs : List C8} {i : Nat} (hi : i < xs.length) (h : okC (xs.getD i C8.zero) = false) : okAll xs = false := by
  rcases Bool.eq_false_or_eq_true (okAll xs) with h1 | h1
  · rw [okAll_iff.1 h1 i hi] at h; cases h
  · exact h1

theorem divides_any (n : Nat) (hn : n ≤ 1048576) (w : World) :
    Calls Try.prog 79 #[.int .i64 n] w fun e w' => e = .returned (.bool (rwLen n)) ∧ w = w' := by
  by_cases h1 : 1 ≤ n
  · by_cases h2 : 24 % n = 0
    · have h3 : rwLen n = true := rwLen_iff.2 ⟨h1, h2⟩
      have h4 : ((24 : Int) % (n : Int) == 0) = true := by rw [beq_iff_eq]; exact_mod_cast h2
      have h5 : (24 : Int).tmod (n : Int) = 24 % (n : Int) := Int.tmod_eq_emod_of_nonneg (by omega)
      rw [h3]
      clear h2 h3
      go_enter Try.func79, Try.ntmps79
      go_wp2
      go_ret
      exact ⟨rfl, rfl⟩
    · have h3 : rwLen n = false := by
        rcases Bool.eq_false_or_eq_true (rwLen n) with h | h
        · exact absurd (rwLen_iff.1 h).2 h2
        · exact h
      have h4 : ((24 : Int) % (n : Int) == 0) = false := by rw [beq_eq_false_iff_ne]; exact_mod_cast h2
      have h5 : (24 : Int).tmod (n : Int) = 24 % (n : Int) := Int.tmod_eq_emod_of_nonneg (by omega)
      rw [h3]
      clear h2 h3
      go_enter Try.func79, Try.ntmps79
      go_wp2
      go_ret
      exact ⟨rfl, rfl⟩
  · obtain rfl : n = 0 := by omega
    go_enter Try.func79, Try.ntmps79
    go_wp2
    go_ret
    exact ⟨rfl, rfl⟩
theorem l6rLength_any (n : Nat) (hn : n ≤ 1048576) (w : World) :
    Calls Try.prog 84 #[.int .i64 n] w fun e w' => e = .returned (.bool (rwLen n)) ∧ w = w' := by
  by_cases h1 : 1 ≤ n
  · by_cases h0 : n ≤ 24
    · by_cases h2 : 24 % n = 0
      · have h3 : rwLen n = true := rwLen_iff.2 ⟨h1, h2⟩
        have h4 : ((24 : Int) % (n : Int) == 0) = true := by rw [beq_iff_eq]; exact_mod_cast h2
        have h5 : (24 : Int).tmod (n : Int) = 24 % (n : Int) := Int.tmod_eq_emod_of_nonneg (by omega)
        rw [h3]
        clear h2 h3
        go_enter Try.func84, Try.ntmps84
        go_wp2
        go_ret
        exact ⟨rfl, rfl⟩
      · have h3 : rwLen n = false := by
          rcases Bool.eq_false_or_eq_true (rwLen n) with h | h
          · exact absurd (rwLen_iff.1 h).2 h2
          · exact h
        have h4 : ((24 : Int) % (n : Int) == 0) = false := by rw [beq_eq_false_iff_ne]; exact_mod_cast h2
        have h5 : (24 : Int).tmod (n : Int) = 24 % (n : Int) := Int.tmod_eq_emod_of_nonneg (by omega)
        rw [h3]
        clear h2 h3
        go_enter Try.func84, Try.ntmps84
        go_wp2
        go_ret
        exact ⟨rfl, rfl⟩
    · have h3 : rwLen n = false := by
        rcases Bool.eq_false_or_eq_true (rwLen n) with h | h
        · have := rwLen_le h; omega
        · exact h
      rw [h3]
      clear h3
      go_enter Try.func84, Try.ntmps84
      go_wp2
      go_ret
      exact ⟨rfl, rfl⟩
  · obtain rfl : n = 0 := by omega
    go_enter Try.func84, Try.ntmps84
    go_wp2
    go_ret
    exact ⟨rfl, rfl⟩

theorem rowValid1_any (c : C8) (w : World) :
    Calls Try.prog 81 #[cv c] w fun e w' => e = .returned (.bool (!okC c)) ∧ Below w.heap.size w w' := by
  go_enter Try.func81, Try.ntmps81
  go_wp2_with (go_at_call 57; refine (cvalid_any _ _).mono ?_; rintro e w' ⟨rfl, hb⟩; obtain ⟨os, d, rfl⟩ := more_of_below hb; clear hb)
  go_ret
  exact ⟨rfl, by repeat' (first | (with_reducible exact Below.refl _ _) | (with_reducible assumption) | (with_reducible refine Below.alloc ?_ ?_ _) | (with_reducible refine below_more ?_ ?_ _ _) | (with_reducible refine below_rd ?_ ?_ _ _) | (with_reducible refine Below.drew ?_) | (with_reducible refine Below.setCell ?_ ?_ _) | go_size)⟩
/-- What the search gives. -/
def FoundPost (w : World) (xs : List C8) (e : Ending) (w' : World) : Prop := (∃ r : Int, e = .returned (.int .i64 r) ∧ -1 ≤ r ∧ ((0 ≤ r) ↔ okAll xs = false)) ∧ Below w.heap.size w w'
theorem found_none {xs : List C8} (h : ∀ i, i < xs.length → okC (xs.getD i C8.zero) = true) : ((0 : Int) ≤ -1) ↔ okAll xs = false := by
  rw [okAll_iff.2 h]; decide
theorem found_some {xs : List C8} {k : Nat} (hk : k < xs.length) (h : okC (xs.getD k C8.zero) = false) : ((0 : Int) ≤ (k : Int)) ↔ okAll xs = false := by
  rw [okAll_no hk h]
  exact ⟨fun _ => rfl, fun _ => by omega⟩
set_option maxRecDepth 100000 in
set_option maxHeartbeats 1000000 in
theorem indexFunc_any (a : Option Addr) (cap : Nat) (xs : List C8) (w : World) (h : HasP w a xs) (hn : xs.length ≤ 1048576) :
    Calls Try.prog 101 #[.slice a xs.length cap, .func (.func 81) #[] #[]] w (FoundPost w xs) := by
  rcases h with rfl | ⟨b, rfl, hb, hp⟩
  · go_enter Try.func101, Try.ntmps101
    go_wp2
    go_rounds 1
    all_goals
      go_ret
      exact ⟨⟨-1, rfl, by omega, by decide⟩, by repeat' (first | (with_reducible exact Below.refl _ _) | (with_reducible assumption) | (with_reducible refine Below.alloc ?_ ?_ _) | (with_reducible refine below_more ?_ ?_ _ _) | (with_reducible refine below_rd ?_ ?_ _ _) | (with_reducible refine Below.drew ?_) | (with_reducible refine Below.setCell ?_ ?_ _) | go_size)⟩
  · have HP := Lib.hid hp
    clear hp
    obtain ⟨n, hn'⟩ : ∃ n, xs.length = n := ⟨_, rfl⟩
    rw [hn'] at hn ⊢
    have HN := Lib.hid hn'
    clear hn'
    go_enter Try.func101, Try.ntmps101
    go_wp2
    go_loopw [8] (fun s wr => ∃ k : Nat, k ≤ n ∧ s = .int .i64 k ∧ Hid (∀ i, i < k → okC (xs.getD i C8.zero) = true) ∧ ∃ os d, wr = more w os d) (fun s _ => n - (intOf s).toNat)
    case atStart => exact ⟨0, by omega, rfl, fun i hi => by omega, _, _, more_self _⟩
    case round =>
      obtain ⟨k, hk, rfl, hall, os, d, rfl⟩ := hrel
      by_cases hlt : k < n
      · have hpk := (HP.out k (by rw [HN.out]; exact hlt)).more hb os d
        obtain ⟨x, hxk⟩ : ∃ x, xs.getD k C8.zero = x := ⟨_, rfl⟩
        rw [hxk] at hpk
        have HX := Lib.hid hxk
        have HK := Lib.hid hpk
        clear hpk hxk
        rcases Bool.eq_false_or_eq_true (okC x) with hin | hin
        · go_wp2_with (first
            | ((with_reducible refine wpList_load_pt (op := ⟨some 15, .load 42 (.tmp 14), _, _, _, _⟩) rfl _ _ rfl b (k * 8) _ HK.out _ Try.underlying42 rfl infoC8 ?_ ?_); (focus rfl))
            | (go_at_call 81; refine (rowValid1_any _ _).mono ?_; rintro e w' ⟨rfl, hb⟩; obtain ⟨os, d, rfl⟩ := more_of_below hb; clear hb))
          go_roundw
          case rel => exact ⟨k + 1, by omega, by go_num, fun j hj => by rcases Nat.lt_succ_iff_lt_or_eq.1 hj with h | rfl; exact hall.out j h; rw [HX.out]; exact hin, _, _, rfl⟩
          case measure => simp [intOf]; omega
        · go_wp2_with (first
            | ((with_reducible refine wpList_load_pt (op := ⟨some 15, .load 42 (.tmp 14), _, _, _, _⟩) rfl _ _ rfl b (k * 8) _ HK.out _ Try.underlying42 rfl infoC8 ?_ ?_); (focus rfl))
            | (go_at_call 81; refine (rowValid1_any _ _).mono ?_; rintro e w' ⟨rfl, hb⟩; obtain ⟨os, d, rfl⟩ := more_of_below hb; clear hb))
          go_ret
          exact ⟨⟨k, rfl, by omega, found_some (by rw [HN.out]; exact hlt) (by rw [HX.out]; exact hin)⟩, by repeat' (first | (with_reducible exact Below.refl _ _) | (with_reducible assumption) | (with_reducible refine Below.alloc ?_ ?_ _) | (with_reducible refine below_more ?_ ?_ _ _) | (with_reducible refine below_rd ?_ ?_ _ _) | (with_reducible refine Below.drew ?_) | (with_reducible refine Below.setCell ?_ ?_ _) | go_size)⟩
      · obtain rfl : k = n := by omega
        go_wp2
        go_ret
        exact ⟨⟨-1, rfl, by omega, found_none fun i hi => hall.out i (by rw [HN.out] at hi; exact hi)⟩, by repeat' (first | (with_reducible exact Below.refl _ _) | (with_reducible assumption) | (with_reducible refine Below.alloc ?_ ?_ _) | (with_reducible refine below_more ?_ ?_ _ _) | (with_reducible refine below_rd ?_ ?_ _ _) | (with_reducible refine Below.drew ?_) | (with_reducible refine Below.setCell ?_ ?_ _) | go_size)⟩
theorem containsFunc_any (a : Option Addr) (cap : Nat) (xs : List C8) (w : World) (h : HasP w a xs) (hn : xs.length ≤ 1048576) :
    Calls Try.prog 80 #[.slice a xs.length cap, .func (.func 81) #[] #[]] w fun e w' => e = .returned (.bool (!okAll xs)) ∧ Below w.heap.size w w' := by
  rcases Bool.eq_false_or_eq_true (okAll xs) with hv | hv
  all_goals
    rw [hv]
    go_enter Try.func80, Try.ntmps80
    go_wp2_with fail
    refine (indexFunc_any a cap xs _ h hn).mono ?_
    rintro e w' ⟨⟨r, rfl, hr, hiff⟩, hb⟩
    obtain ⟨os, d, rfl⟩ := more_of_below hb
    rw [hv] at hiff
  · have hr2 : ¬ (0 ≤ r) := fun h0 => by have := hiff.1 h0; cases this
    clear hb hiff
    go_wp2
    go_ret
    exact ⟨by show Ending.returned (.bool (decide (0 ≤ r))) = _; rw [decide_eq_false (show ¬ (0 ≤ r) by omega)]; rfl, by repeat' (first | (with_reducible exact Below.refl _ _) | (with_reducible assumption) | (with_reducible refine Below.alloc ?_ ?_ _) | (with_reducible refine below_more ?_ ?_ _ _) | (with_reducible refine below_rd ?_ ?_ _ _) | (with_reducible refine Below.drew ?_) | (with_reducible refine Below.setCell ?_ ?_ _) | go_size)⟩
  · have hr2 : 0 ≤ r := hiff.2 rfl
    clear hb hiff
    go_wp2
    go_ret
    exact ⟨rfl, by repeat' (first | (with_reducible exact Below.refl _ _) | (with_reducible assumption) | (with_reducible refine Below.alloc ?_ ?_ _) | (with_reducible refine below_more ?_ ?_ _ _) | (with_reducible refine below_rd ?_ ?_ _ _) | (with_reducible refine Below.drew ?_) | (with_reducible refine Below.setCell ?_ ?_ _) | go_size)⟩
theorem rowValid_any (a : Option Addr) (cap : Nat) (xs : List C8) (w : World) (h : HasP w a xs) (hn : xs.length ≤ 1048576) :
    Calls Try.prog 47 #[.slice a xs.length cap] w fun e w' => e = .returned (.bool (rvOk xs)) ∧ Below w.heap.size w w' := by
  have HW := Lib.hid h
  rcases Bool.eq_false_or_eq_true (rwLen xs.length) with h1 | h1
  · rw [show rvOk xs = okAll xs by simp [rvOk, h1]]
    go_enter Try.func47, Try.ntmps47
    go_wp2_with (first
      | (go_at_call 79; refine (divides_any _ hn _).mono ?_; rintro e w' ⟨rfl, rfl⟩)
      | (go_at_call 80; refine (containsFunc_any _ _ _ _ HW.out hn).mono ?_; rintro e w' ⟨rfl, hb⟩; obtain ⟨os, d, rfl⟩ := more_of_below hb; clear hb))
    go_ret
    exact ⟨by simp, by repeat' (first | (with_reducible exact Below.refl _ _) | (with_reducible assumption) | (with_reducible refine Below.alloc ?_ ?_ _) | (with_reducible refine below_more ?_ ?_ _ _) | (with_reducible refine below_rd ?_ ?_ _ _) | (with_reducible refine Below.drew ?_) | (with_reducible refine Below.setCell ?_ ?_ _) | go_size)⟩
  · rw [show rvOk xs = false by simp [rvOk, h1]]
    go_enter Try.func47, Try.ntmps47
    go_wp2_with (go_at_call 79; refine (divides_any _ hn _).mono ?_; rintro e w' ⟨rfl, rfl⟩)
    go_ret
    exact ⟨rfl, by repeat' (first | (with_reducible exact Below.refl _ _) | (with_reducible assumption) | (with_reducible refine Below.alloc ?_ ?_ _) | (with_reducible refine below_more ?_ ?_ _ _) | (with_reducible refine below_rd ?_ ?_ _ _) | (with_reducible refine Below.drew ?_) | (with_reducible refine Below.setCell ?_ ?_ _) | go_size)⟩
set_option maxRecDepth 100000 in
set_option maxHeartbeats 1000000 in
theorem specRowValid_any (a : Option Addr) (cap : Nat) (xs : List C8) (w : World) (h : HasP w a xs) (hn : xs.length ≤ 1048576) :
    Calls Try.prog 55 #[.slice a xs.length cap] w fun e w' => e = .returned (.bool (rvOk xs)) ∧ Below w.heap.size w w' := by
  rcases h with rfl | ⟨b, rfl, hb, hp⟩
  · go_enter Try.func55, Try.ntmps55
    go_wp2_with fail
    go_rounds 1
    all_goals
      go_wp2_with (go_at_call 84; refine (l6rLength_any 0 (by omega) _).mono ?_; rintro e w' ⟨rfl, rfl⟩)
      go_ret
      exact ⟨rfl, by repeat' (first | (with_reducible exact Below.refl _ _) | (with_reducible assumption) | (with_reducible refine Below.alloc ?_ ?_ _) | (with_reducible refine below_more ?_ ?_ _ _) | (with_reducible refine below_rd ?_ ?_ _ _) | (with_reducible refine Below.drew ?_) | (with_reducible refine Below.setCell ?_ ?_ _) | go_size)⟩
  · have HP := Lib.hid hp
    clear hp
    obtain ⟨n, hn'⟩ : ∃ n, xs.length = n := ⟨_, rfl⟩
    have hrv : rvOk xs = (rwLen n && okAll xs) := by rw [rvOk, hn']
    rw [hn'] at hn ⊢
    rw [hrv]
    have HN := Lib.hid hn'
    clear hn' hrv
    go_enter Try.func55, Try.ntmps55
    go_wp2
    go_loopw [3] (fun s wr => ∃ k : Nat, k ≤ n ∧ s = .int .i64 k ∧ Hid (∀ i, i < k → okC (xs.getD i C8.zero) = true) ∧ ∃ os d, wr = more w os d) (fun s _ => n - (intOf s).toNat)
    case atStart => exact ⟨0, by omega, rfl, fun i hi => by omega, _, _, more_self _⟩
    case round =>
      obtain ⟨k, hk, rfl, hall, os, d, rfl⟩ := hrel
      by_cases hlt : k < n
      · have hpk := (HP.out k (by rw [HN.out]; exact hlt)).more hb os d
        obtain ⟨x, hxk⟩ : ∃ x, xs.getD k C8.zero = x := ⟨_, rfl⟩
        rw [hxk] at hpk
        have HX := Lib.hid hxk
        have HK := Lib.hid hpk
        clear hpk hxk
        rcases Bool.eq_false_or_eq_true (okC x) with hin | hin
        · go_wp2_with (first
            | ((with_reducible refine wpList_load_pt (op := ⟨some 13, .load 42 (.tmp 12), _, _, _, _⟩) rfl _ _ rfl b (k * 8) _ HK.out _ Try.underlying42 rfl infoC8 ?_ ?_); (focus rfl))
            | (go_at_call 70; refine (specCValid_any _ _).mono ?_; rintro e w' ⟨rfl, hb⟩; obtain ⟨os, d, rfl⟩ := more_of_below hb; clear hb))
          go_roundw
          case rel => exact ⟨k + 1, by omega, by go_num, fun j hj => by rcases Nat.lt_succ_iff_lt_or_eq.1 hj with h | rfl; exact hall.out j h; rw [HX.out]; exact hin, _, _, rfl⟩
          case measure => simp [intOf]; omega
        · have hno := okAll_no (xs := xs) (i := k) (by rw [HN.out]; exact hlt) (by rw [HX.out]; exact hin)
          have HO := Lib.hid hno
          clear hno
          go_wp2_with (first
            | ((with_reducible refine wpList_load_pt (op := ⟨some 13, .load 42 (.tmp 12), _, _, _, _⟩) rfl _ _ rfl b (k * 8) _ HK.out _ Try.underlying42 rfl infoC8 ?_ ?_); (focus rfl))
            | (go_at_call 70; refine (specCValid_any _ _).mono ?_; rintro e w' ⟨rfl, hb⟩; obtain ⟨os, d, rfl⟩ := more_of_below hb; clear hb))
          go_ret
          exact ⟨by rw [HO.out, Bool.and_false]; rfl, by repeat' (first | (with_reducible exact Below.refl _ _) | (with_reducible assumption) | (with_reducible refine Below.alloc ?_ ?_ _) | (with_reducible refine below_more ?_ ?_ _ _) | (with_reducible refine below_rd ?_ ?_ _ _) | (with_reducible refine Below.drew ?_) | (with_reducible refine Below.setCell ?_ ?_ _) | go_size)⟩
      · obtain rfl : k = n := by omega
        have hyes := okAll_iff.2 (fun i hi => hall.out i (by rw [HN.out] at hi; exact hi) : ∀ i, i < xs.length → okC (xs.getD i C8.zero) = true)
        have HY := Lib.hid hyes
        clear hyes
        go_wp2_with (go_at_call 84; refine (l6rLength_any _ hn _).mono ?_; rintro e w' ⟨rfl, rfl⟩)
        go_ret
        exact ⟨by rw [HY.out, Bool.and_true]; rfl, by repeat' (first | (with_reducible exact Below.refl _ _) | (with_reducible assumption) | (with_reducible refine Below.alloc ?_ ?_ _) | (with_reducible refine below_more ?_ ?_ _ _) | (with_reducible refine below_rd ?_ ?_ _ _) | (with_reducible refine Below.drew ?_) | (with_reducible refine Below.setCell ?_ ?_ _) | go_size)⟩
end Go.Proofs.Ytelgbmebjickeaa
