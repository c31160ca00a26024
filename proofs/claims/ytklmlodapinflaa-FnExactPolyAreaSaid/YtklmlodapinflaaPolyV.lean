/- Polygons: PolyValid, of the program and of the reference. -/
import Derived.Test.YtklmlodapinflaaRowB
import Derived.Test.YtklmlodapinflaaPolyC
namespace Go.Proofs.Ytklmlodapinflaa
open Go.RowKit

/-- A corner's coefficients are small. -/
abbrev okP (c : C8) : Bool := okM c 100
/-- All points are valid. -/
def pvA (xs : List C8) : Bool := xs.all okP
theorem pvA_iff {xs : List C8} : pvA xs = true ↔ ∀ i, i < xs.length → okP (xs.getD i C8.zero) = true := by
  unfold pvA
  rw [List.all_eq_true]
  constructor
  · intro h i hi
    apply h
    rw [List.getD_eq_getElem?_getD, List.getElem?_eq_getElem hi]; exact List.getElem_mem _
  · intro h x hx
    obtain ⟨i, hi, rfl⟩ := List.getElem_of_mem hx
    have := h i hi
    rw [List.getD_eq_getElem?_getD, List.getElem?_eq_getElem hi] at this
    exact this
theorem pvA_no {xs : List C8} {i : Nat} (hi : i < xs.length) (h : okP (xs.getD i C8.zero) = false) : pvA xs = false := by
  rcases Bool.eq_false_or_eq_true (pvA xs) with h1 | h1
  · rw [pvA_iff.1 h1 i hi] at h; cases h
  · exact h1

/-- A polygon. -/
def plOk (xs : List C8) : Bool := inB xs.length 1 48 && pvA xs
theorem polyValid1_any (c : C8) (w : World) :
    Calls Try.prog 115 #[cv c] w fun e w' => e = .returned (.bool (!okM c 100)) ∧ Below w.heap.size w w' := by
  go_enter Try.func115, Try.ntmps115
  go_wp2_with (go_at_call 66; refine (smallM_any _ 100 (by omega) (by omega) _).mono ?_; rintro e w' ⟨rfl, hb⟩; obtain ⟨os, d, rfl⟩ := more_of_below hb; clear hb)
  go_ret
  exact ⟨rfl, by repeat' (first | (with_reducible exact Below.refl _ _) | (with_reducible assumption) | (with_reducible refine Below.alloc ?_ ?_ _) | (with_reducible refine below_more ?_ ?_ _ _) | (with_reducible refine below_rd ?_ ?_ _ _) | (with_reducible refine Below.drew ?_) | (with_reducible refine Below.setCell ?_ ?_ _) | go_size)⟩
/-- What the search gives. -/
def FoundPost8 (w : World) (xs : List C8) (e : Ending) (w' : World) : Prop := (∃ r : Int, e = .returned (.int .i64 r) ∧ -1 ≤ r ∧ ((0 ≤ r) ↔ pvA xs = false)) ∧ Below w.heap.size w w'
theorem found_none8 {xs : List C8} (h : ∀ i, i < xs.length → okP (xs.getD i C8.zero) = true) : ((0 : Int) ≤ -1) ↔ pvA xs = false := by
  rw [pvA_iff.2 h]; decide
theorem found_some8 {xs : List C8} {k : Nat} (hk : k < xs.length) (h : okP (xs.getD k C8.zero) = false) : ((0 : Int) ≤ (k : Int)) ↔ pvA xs = false := by
  rw [pvA_no hk h]
  exact ⟨fun _ => rfl, fun _ => by omega⟩
set_option maxRecDepth 100000 in
set_option maxHeartbeats 1000000 in
theorem indexFunc8_any (a : Option Addr) (cap : Nat) (xs : List C8) (w : World) (h : HasP w a xs) (hn : xs.length ≤ 1048576) :
    Calls Try.prog 131 #[.slice a xs.length cap, .func (.func 115) #[] #[]] w (FoundPost8 w xs) := by
  rcases h with rfl | ⟨b, rfl, hb, hp⟩
  · go_enter Try.func131, Try.ntmps131
    go_wp2
    go_rounds 1
    all_goals
      go_ret
      exact ⟨⟨-1, rfl, by omega, by decide⟩, by repeat' (first | (with_reducible exact Below.refl _ _) | (with_reducible assumption) | (with_reducible refine Below.alloc ?_ ?_ _) | (with_reducible refine below_more ?_ ?_ _ _) | (with_reducible refine below_rd ?_ ?_ _ _) | (with_reducible refine Below.drew ?_) | (with_reducible refine Below.setCell ?_ ?_ _) | go_size)⟩
  · have HP := Lib.hid hp
    clear hp
    obtain ⟨n, hn'⟩ : ∃ n, xs.length = n := ⟨_, rfl⟩
    rw [hn'] at hn ⊢
    have HN := Lib.hid hn'
    clear hn'
    go_enter Try.func131, Try.ntmps131
    go_wp2
    go_loopw [8] (fun s wr => ∃ k : Nat, k ≤ n ∧ s = .int .i64 k ∧ Hid (∀ i, i < k → okP (xs.getD i C8.zero) = true) ∧ ∃ os d, wr = more w os d) (fun s _ => n - (intOf s).toNat)
    case atStart => exact ⟨0, by omega, rfl, fun i hi => by omega, _, _, more_self _⟩
    case round =>
      obtain ⟨k, hk, rfl, hall, os, d, rfl⟩ := hrel
      by_cases hlt : k < n
      · have hpk := (HP.out k (by rw [HN.out]; exact hlt)).more hb os d
        obtain ⟨x, hxk⟩ : ∃ x, xs.getD k C8.zero = x := ⟨_, rfl⟩
        rw [hxk] at hpk
        have HX := Lib.hid hxk
        have HK := Lib.hid hpk
        clear hpk hxk
        rcases Bool.eq_false_or_eq_true (okM x 100) with hin | hin
        · go_wp2_with (first
            | ((with_reducible refine wpList_load_pt (op := ⟨some 15, .load 25 (.tmp 14), _, _, _, _⟩) rfl _ _ rfl b (k * 8) _ HK.out _ Try.underlying25 rfl infoC8 ?_ ?_); (focus rfl))
            | (go_at_call 115; refine (polyValid1_any _ _).mono ?_; rintro e w' ⟨rfl, hb⟩; obtain ⟨os, d, rfl⟩ := more_of_below hb; clear hb))
          go_roundw
          case rel => exact ⟨k + 1, by omega, by go_num, fun j hj => by rcases Nat.lt_succ_iff_lt_or_eq.1 hj with h | rfl; exact hall.out j h; rw [HX.out]; exact hin, _, _, rfl⟩
          case measure => simp [intOf]; omega
        · go_wp2_with (first
            | ((with_reducible refine wpList_load_pt (op := ⟨some 15, .load 25 (.tmp 14), _, _, _, _⟩) rfl _ _ rfl b (k * 8) _ HK.out _ Try.underlying25 rfl infoC8 ?_ ?_); (focus rfl))
            | (go_at_call 115; refine (polyValid1_any _ _).mono ?_; rintro e w' ⟨rfl, hb⟩; obtain ⟨os, d, rfl⟩ := more_of_below hb; clear hb))
          go_ret
          exact ⟨⟨k, rfl, by omega, found_some8 (by rw [HN.out]; exact hlt) (by rw [HX.out]; exact hin)⟩, by repeat' (first | (with_reducible exact Below.refl _ _) | (with_reducible assumption) | (with_reducible refine Below.alloc ?_ ?_ _) | (with_reducible refine below_more ?_ ?_ _ _) | (with_reducible refine below_rd ?_ ?_ _ _) | (with_reducible refine Below.drew ?_) | (with_reducible refine Below.setCell ?_ ?_ _) | go_size)⟩
      · obtain rfl : k = n := by omega
        go_wp2
        go_ret
        exact ⟨⟨-1, rfl, by omega, found_none8 fun i hi => hall.out i (by rw [HN.out] at hi; exact hi)⟩, by repeat' (first | (with_reducible exact Below.refl _ _) | (with_reducible assumption) | (with_reducible refine Below.alloc ?_ ?_ _) | (with_reducible refine below_more ?_ ?_ _ _) | (with_reducible refine below_rd ?_ ?_ _ _) | (with_reducible refine Below.drew ?_) | (with_reducible refine Below.setCell ?_ ?_ _) | go_size)⟩
theorem containsFunc8_any (a : Option Addr) (cap : Nat) (xs : List C8) (w : World) (h : HasP w a xs) (hn : xs.length ≤ 1048576) :
    Calls Try.prog 114 #[.slice a xs.length cap, .func (.func 115) #[] #[]] w fun e w' => e = .returned (.bool (!pvA xs)) ∧ Below w.heap.size w w' := by
  rcases Bool.eq_false_or_eq_true (pvA xs) with hv | hv
  all_goals
    rw [hv]
    go_enter Try.func114, Try.ntmps114
    go_wp2_with fail
    refine (indexFunc8_any a cap xs _ h hn).mono ?_
    rintro e w' ⟨⟨r, rfl, hr, hiff⟩, hb⟩
    obtain ⟨os, d, rfl⟩ := more_of_below hb
    rw [hv] at hiff
  · have hr2 : ¬ (0 ≤ r) := fun h0 => by have := hiff.1 h0; cases this
    clear hb hiff
    go_wp2
    go_ret
    exact ⟨by show Ending.returned (.bool (decide (0 ≤ r))) = _; rw [decide_eq_false (show ¬ (0 ≤ r) by omega)]; rfl, by repeat' (first | (with_reducible exact Below.refl _ _) | (with_reducible assumption) | (with_reducible refine Below.alloc ?_ ?_ _) | (with_reducible refine below_more ?_ ?_ _ _) | (with_reducible refine below_rd ?_ ?_ _ _) | (with_reducible refine Below.drew ?_) | (with_reducible refine Below.setCell ?_ ?_ _) | go_size)⟩
  · have hr2 : 0 ≤ r := hiff.2 rfl
    clear hb hiff
    go_wp2
    go_ret
    exact ⟨rfl, by repeat' (first | (with_reducible exact Below.refl _ _) | (with_reducible assumption) | (with_reducible refine Below.alloc ?_ ?_ _) | (with_reducible refine below_more ?_ ?_ _ _) | (with_reducible refine below_rd ?_ ?_ _ _) | (with_reducible refine Below.drew ?_) | (with_reducible refine Below.setCell ?_ ?_ _) | go_size)⟩
theorem polyValid_any (a : Option Addr) (cap : Nat) (xs : List C8) (w : World) (h : HasP w a xs) (hn : xs.length ≤ 1048576) :
    Calls Try.prog 80 #[.slice a xs.length cap] w fun e w' => e = .returned (.bool (plOk xs)) ∧ Below w.heap.size w w' := by
  have HW := Lib.hid h
  rcases Bool.eq_false_or_eq_true (inB xs.length 1 48) with h1 | h1
  · rw [show plOk xs = pvA xs by simp [plOk, h1]]
    go_enter Try.func80, Try.ntmps80
    go_wp2_with (first
      | (go_at_call 110; refine (within_any _ _ _ _).mono ?_; rintro e w' ⟨rfl, rfl⟩)
      | (go_at_call 114; refine (containsFunc8_any _ _ _ _ HW.out hn).mono ?_; rintro e w' ⟨rfl, hb⟩; obtain ⟨os, d, rfl⟩ := more_of_below hb; clear hb))
    go_ret
    exact ⟨by simp, by repeat' (first | (with_reducible exact Below.refl _ _) | (with_reducible assumption) | (with_reducible refine Below.alloc ?_ ?_ _) | (with_reducible refine below_more ?_ ?_ _ _) | (with_reducible refine below_rd ?_ ?_ _ _) | (with_reducible refine Below.drew ?_) | (with_reducible refine Below.setCell ?_ ?_ _) | go_size)⟩
  · rw [show plOk xs = false by simp [plOk, h1]]
    go_enter Try.func80, Try.ntmps80
    go_wp2_with (go_at_call 110; refine (within_any _ _ _ _).mono ?_; rintro e w' ⟨rfl, rfl⟩)
    go_ret
    exact ⟨rfl, by repeat' (first | (with_reducible exact Below.refl _ _) | (with_reducible assumption) | (with_reducible refine Below.alloc ?_ ?_ _) | (with_reducible refine below_more ?_ ?_ _ _) | (with_reducible refine below_rd ?_ ?_ _ _) | (with_reducible refine Below.drew ?_) | (with_reducible refine Below.setCell ?_ ?_ _) | go_size)⟩
set_option maxRecDepth 100000 in
set_option maxHeartbeats 1000000 in
theorem specPolyValid_any (a : Option Addr) (cap : Nat) (xs : List C8) (w : World) (h : HasP w a xs) (hn : xs.length ≤ 1048576) :
    Calls Try.prog 78 #[.slice a xs.length cap] w fun e w' => e = .returned (.bool (plOk xs)) ∧ Below w.heap.size w w' := by
  rcases h with rfl | ⟨b, rfl, hb, hp⟩
  · go_enter Try.func78, Try.ntmps78
    go_wp2_with fail
    go_rounds 1
    all_goals
      go_wp2_with (go_at_call 105; refine (l6In_any _ _ _ _).mono ?_; rintro e w' ⟨rfl, rfl⟩)
      go_ret
      exact ⟨rfl, by repeat' (first | (with_reducible exact Below.refl _ _) | (with_reducible assumption) | (with_reducible refine Below.alloc ?_ ?_ _) | (with_reducible refine below_more ?_ ?_ _ _) | (with_reducible refine below_rd ?_ ?_ _ _) | (with_reducible refine Below.drew ?_) | (with_reducible refine Below.setCell ?_ ?_ _) | go_size)⟩
  · have HP := Lib.hid hp
    clear hp
    obtain ⟨n, hn'⟩ : ∃ n, xs.length = n := ⟨_, rfl⟩
    have hrv : plOk xs = (inB n 1 48 && pvA xs) := by rw [plOk, hn']
    rw [hn'] at hn ⊢
    rw [hrv]
    have HN := Lib.hid hn'
    clear hn' hrv
    go_enter Try.func78, Try.ntmps78
    go_wp2
    go_loopw [3] (fun s wr => ∃ k : Nat, k ≤ n ∧ s = .int .i64 k ∧ Hid (∀ i, i < k → okP (xs.getD i C8.zero) = true) ∧ ∃ os d, wr = more w os d) (fun s _ => n - (intOf s).toNat)
    case atStart => exact ⟨0, by omega, rfl, fun i hi => by omega, _, _, more_self _⟩
    case round =>
      obtain ⟨k, hk, rfl, hall, os, d, rfl⟩ := hrel
      by_cases hlt : k < n
      · have hpk := (HP.out k (by rw [HN.out]; exact hlt)).more hb os d
        obtain ⟨x, hxk⟩ : ∃ x, xs.getD k C8.zero = x := ⟨_, rfl⟩
        rw [hxk] at hpk
        have HX := Lib.hid hxk
        have HK := Lib.hid hpk
        clear hpk hxk
        rcases Bool.eq_false_or_eq_true (okM x 100) with hin | hin
        · go_wp2_with (first
            | ((with_reducible refine wpList_load_pt (op := ⟨some 13, .load 25 (.tmp 12), _, _, _, _⟩) rfl _ _ rfl b (k * 8) _ HK.out _ Try.underlying25 rfl infoC8 ?_ ?_); (focus rfl))
            | (go_at_call 63; refine (l8Small_any _ 100 (by omega) (by omega) _).mono ?_; rintro e w' ⟨rfl, hb⟩; obtain ⟨os, d, rfl⟩ := more_of_below hb; clear hb))
          go_roundw
          case rel => exact ⟨k + 1, by omega, by go_num, fun j hj => by rcases Nat.lt_succ_iff_lt_or_eq.1 hj with h | rfl; exact hall.out j h; rw [HX.out]; exact hin, _, _, rfl⟩
          case measure => simp [intOf]; omega
        · have hno := pvA_no (xs := xs) (i := k) (by rw [HN.out]; exact hlt) (by rw [HX.out]; exact hin)
          have HO := Lib.hid hno
          clear hno
          go_wp2_with (first
            | ((with_reducible refine wpList_load_pt (op := ⟨some 13, .load 25 (.tmp 12), _, _, _, _⟩) rfl _ _ rfl b (k * 8) _ HK.out _ Try.underlying25 rfl infoC8 ?_ ?_); (focus rfl))
            | (go_at_call 63; refine (l8Small_any _ 100 (by omega) (by omega) _).mono ?_; rintro e w' ⟨rfl, hb⟩; obtain ⟨os, d, rfl⟩ := more_of_below hb; clear hb))
          go_ret
          exact ⟨by rw [HO.out, Bool.and_false]; rfl, by repeat' (first | (with_reducible exact Below.refl _ _) | (with_reducible assumption) | (with_reducible refine Below.alloc ?_ ?_ _) | (with_reducible refine below_more ?_ ?_ _ _) | (with_reducible refine below_rd ?_ ?_ _ _) | (with_reducible refine Below.drew ?_) | (with_reducible refine Below.setCell ?_ ?_ _) | go_size)⟩
      · obtain rfl : k = n := by omega
        have hyes := pvA_iff.2 (fun i hi => hall.out i (by rw [HN.out] at hi; exact hi) : ∀ i, i < xs.length → okP (xs.getD i C8.zero) = true)
        have HY := Lib.hid hyes
        clear hyes
        go_wp2_with (go_at_call 105; refine (l6In_any _ _ _ _).mono ?_; rintro e w' ⟨rfl, rfl⟩)
        go_ret
        exact ⟨by rw [HY.out, Bool.and_true]; rfl, by repeat' (first | (with_reducible exact Below.refl _ _) | (with_reducible assumption) | (with_reducible refine Below.alloc ?_ ?_ _) | (with_reducible refine below_more ?_ ?_ _ _) | (with_reducible refine below_rd ?_ ?_ _ _) | (with_reducible refine Below.drew ?_) | (with_reducible refine Below.setCell ?_ ?_ _) | go_size)⟩
end Go.Proofs.Ytklmlodapinflaa
