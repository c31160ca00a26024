/- Designs: DesignValid, DesignAt, of the program and of the reference. -/
import Derived.Test.YthojdoiffkdikaaGreatDoorWheelA
import Derived.Test.YthojdoiffkdikaaGreatDoorCycD
import Derived.Test.YthojdoiffkdikaaGreatDoorSumOf
import Derived.Test.YthojdoiffkdikaaGreatDoorCycI
import Derived.Deep.RegionWith
import Derived.Deep.DrawnRows
namespace Go.Proofs.YthojdoiffkdikaaGreatDoor
open Go.RowKit
attribute [local go_sem ↓] Go.wp_at_zero Go.wp_at_succ

/-- A wheel of a design. -/
def okW (x : W9) : Bool := inB x.s (-1000) 1000 && okC x.r
def okAllW (xs : List W9) : Bool := xs.all okW
def dvOk (xs : List W9) : Bool := decide (xs.length ≤ 12) && okAllW xs
theorem okAllW_iff {xs : List W9} : okAllW xs = true ↔ ∀ i, i < xs.length → okW (xs.getD i W9.zero) = true := by
  unfold okAllW
  rw [List.all_eq_true]
  constructor
  · intro h i hi
    apply h
    rw [List.getD_eq_getElem?_getD, List.getElem?_eq_getElem hi]; exact List.getElem_mem _
  · intro h x hx
    obtain ⟨i, hi, rfl⟩ := List.getElem_of_mem hx
    have := h i hi
    rw [List.getD_eq_getElem?_getD, List.getElem?_eq_getElem hi] at this
    exact this
theorem okAllW_no {xs : List W9} {i : Nat} (hi : i < xs.length) (h : okW (xs.getD i W9.zero) = false) : okAllW xs = false := by
  rcases Bool.eq_false_or_eq_true (okAllW xs) with h1 | h1
  · rw [okAllW_iff.1 h1 i hi] at h; cases h
  · exact h1
theorem designValid1_any (x : W9) (w : World) :
    Calls Tryz.prog 102 #[wv x] w fun e w' => e = .returned (.bool (!okW x)) ∧ Below w.heap.size w w' := by
  rcases Bool.eq_false_or_eq_true (inB x.s (-1000) 1000) with h1 | h1
  · rw [show okW x = okC x.r by rw [okW, h1, Bool.true_and]]
    go_enter Tryz.func102, Tryz.ntmps102
    go_wp2_with (first
      | (go_at_call 103; refine (within_any _ _ _ _).mono ?_; rintro e w' ⟨rfl, rfl⟩)
      | (go_at_call 104; refine (cvalid_any _ _).mono ?_; rintro e w' ⟨rfl, hb⟩; obtain ⟨os, d, rfl⟩ := more_of_below hb; clear hb))
    go_ret
    exact ⟨rfl, by repeat' (first | (with_reducible exact Below.refl _ _) | (with_reducible assumption) | (with_reducible refine Below.alloc ?_ ?_ _) | (with_reducible refine below_more ?_ ?_ _ _) | (with_reducible refine below_rd ?_ ?_ _ _) | (with_reducible refine Below.drew ?_) | (with_reducible refine Below.setCell ?_ ?_ _) | go_size)⟩
  · rw [show okW x = false by rw [okW, h1]; rfl]
    go_enter Tryz.func102, Tryz.ntmps102
    go_wp2_with (first
      | (go_at_call 103; refine (within_any _ _ _ _).mono ?_; rintro e w' ⟨rfl, rfl⟩)
      | (go_at_call 104; refine (cvalid_any _ _).mono ?_; rintro e w' ⟨rfl, hb⟩; obtain ⟨os, d, rfl⟩ := more_of_below hb; clear hb))
    go_ret
    exact ⟨rfl, by repeat' (first | (with_reducible exact Below.refl _ _) | (with_reducible assumption) | (with_reducible refine Below.alloc ?_ ?_ _) | (with_reducible refine below_more ?_ ?_ _ _) | (with_reducible refine below_rd ?_ ?_ _ _) | (with_reducible refine Below.drew ?_) | (with_reducible refine Below.setCell ?_ ?_ _) | go_size)⟩
/-- What the search gives. -/
def FoundPostW (w : World) (xs : List W9) (e : Ending) (w' : World) : Prop := (∃ r : Int, e = .returned (.int .i64 r) ∧ -1 ≤ r ∧ ((0 ≤ r) ↔ okAllW xs = false)) ∧ Below w.heap.size w w'
theorem found_noneW {xs : List W9} (h : ∀ i, i < xs.length → okW (xs.getD i W9.zero) = true) : ((0 : Int) ≤ -1) ↔ okAllW xs = false := by
  rw [okAllW_iff.2 h]; decide
theorem found_someW {xs : List W9} {k : Nat} (hk : k < xs.length) (h : okW (xs.getD k W9.zero) = false) : ((0 : Int) ≤ (k : Int)) ↔ okAllW xs = false := by
  rw [okAllW_no hk h]
  exact ⟨fun _ => rfl, fun _ => by omega⟩
set_option maxRecDepth 100000 in
set_option maxHeartbeats 1000000 in
theorem indexFuncW_any (a : Option Addr) (cap : Nat) (xs : List W9) (w : World) (h : HasW w a xs) (hn : xs.length ≤ 1048576) :
    Calls Tryz.prog 105 #[.slice a xs.length cap, .func (.func 102) #[] #[]] w (FoundPostW w xs) := by
  rcases h with rfl | ⟨b, rfl, hb, hp⟩
  · go_enter Tryz.func105, Tryz.ntmps105
    go_wp2
    go_rounds 1
    all_goals
      go_ret
      exact ⟨⟨-1, rfl, by omega, by decide⟩, by repeat' (first | (with_reducible exact Below.refl _ _) | (with_reducible assumption) | (with_reducible refine Below.alloc ?_ ?_ _) | (with_reducible refine below_more ?_ ?_ _ _) | (with_reducible refine below_rd ?_ ?_ _ _) | (with_reducible refine Below.drew ?_) | (with_reducible refine Below.setCell ?_ ?_ _) | go_size)⟩
  · have HP := Lib.hid hp
    clear hp
    obtain ⟨n, hn'⟩ : ∃ n, xs.length = n := ⟨_, rfl⟩
    rw [hn'] at hn ⊢
    have HN := Lib.hid hn'
    clear hn'
    go_enter Tryz.func105, Tryz.ntmps105
    go_wp2
    go_loopw [8] (fun s wr => ∃ k : Nat, k ≤ n ∧ s = .int .i64 k ∧ Hid (∀ i, i < k → okW (xs.getD i W9.zero) = true) ∧ ∃ os d, wr = more w os d) (fun s _ => n - (intOf s).toNat)
    case atStart => exact ⟨0, by omega, rfl, fun i hi => by omega, _, _, more_self _⟩
    case round =>
      obtain ⟨k, hk, rfl, hall, os, d, rfl⟩ := hrel
      by_cases hlt : k < n
      · have hpk := (HP.out k (by rw [HN.out]; exact hlt)).more hb os d
        obtain ⟨x, hxk⟩ : ∃ x, xs.getD k W9.zero = x := ⟨_, rfl⟩
        rw [hxk] at hpk
        have HX := Lib.hid hxk
        have HK := Lib.hid hpk
        clear hpk hxk
        rcases Bool.eq_false_or_eq_true (okW x) with hin | hin
        · go_wp2_with (first
            | ((with_reducible refine wpList_load_wh (op := ⟨some 15, .load 61 (.tmp 14), _, _, _, _⟩) rfl _ _ rfl b (k * 9) _ HK.out _ Tryz.underlying61 rfl infoW9 ?_ ?_); (focus rfl))
            | (go_at_call 102; refine (designValid1_any _ _).mono ?_; rintro e w' ⟨rfl, hb⟩; obtain ⟨os, d, rfl⟩ := more_of_below hb; clear hb))
          go_roundw
          case rel => exact ⟨k + 1, by omega, by go_num, fun j hj => by rcases Nat.lt_succ_iff_lt_or_eq.1 hj with h | rfl; exact hall.out j h; rw [HX.out]; exact hin, _, _, rfl⟩
          case measure => simp [intOf]; omega
        · go_wp2_with (first
            | ((with_reducible refine wpList_load_wh (op := ⟨some 15, .load 61 (.tmp 14), _, _, _, _⟩) rfl _ _ rfl b (k * 9) _ HK.out _ Tryz.underlying61 rfl infoW9 ?_ ?_); (focus rfl))
            | (go_at_call 102; refine (designValid1_any _ _).mono ?_; rintro e w' ⟨rfl, hb⟩; obtain ⟨os, d, rfl⟩ := more_of_below hb; clear hb))
          go_ret
          exact ⟨⟨k, rfl, by omega, found_someW (by rw [HN.out]; exact hlt) (by rw [HX.out]; exact hin)⟩, by repeat' (first | (with_reducible exact Below.refl _ _) | (with_reducible assumption) | (with_reducible refine Below.alloc ?_ ?_ _) | (with_reducible refine below_more ?_ ?_ _ _) | (with_reducible refine below_rd ?_ ?_ _ _) | (with_reducible refine Below.drew ?_) | (with_reducible refine Below.setCell ?_ ?_ _) | go_size)⟩
      · obtain rfl : k = n := by omega
        go_wp2
        go_ret
        exact ⟨⟨-1, rfl, by omega, found_noneW fun i hi => hall.out i (by rw [HN.out] at hi; exact hi)⟩, by repeat' (first | (with_reducible exact Below.refl _ _) | (with_reducible assumption) | (with_reducible refine Below.alloc ?_ ?_ _) | (with_reducible refine below_more ?_ ?_ _ _) | (with_reducible refine below_rd ?_ ?_ _ _) | (with_reducible refine Below.drew ?_) | (with_reducible refine Below.setCell ?_ ?_ _) | go_size)⟩
theorem containsFuncW_any (a : Option Addr) (cap : Nat) (xs : List W9) (w : World) (h : HasW w a xs) (hn : xs.length ≤ 1048576) :
    Calls Tryz.prog 101 #[.slice a xs.length cap, .func (.func 102) #[] #[]] w fun e w' => e = .returned (.bool (!okAllW xs)) ∧ Below w.heap.size w w' := by
  rcases Bool.eq_false_or_eq_true (okAllW xs) with hv | hv
  all_goals
    rw [hv]
    go_enter Tryz.func101, Tryz.ntmps101
    go_wp2_with fail
    refine (indexFuncW_any a cap xs _ h hn).mono ?_
    rintro e w' ⟨⟨r, rfl, hr, hiff⟩, hb⟩
    obtain ⟨os, d, rfl⟩ := more_of_below hb
    rw [hv] at hiff
  · have hr2 : ¬ (0 ≤ r) := fun h0 => by have := hiff.1 h0; cases this
    clear hb hiff
    go_wp2
    go_ret
    exact ⟨by show Ending.returned (.bool (decide (0 ≤ r))) = _; rw [decide_eq_false (show ¬ (0 ≤ r) by omega)]; rfl, by repeat' (first | (with_reducible exact Below.refl _ _) | (with_reducible assumption) | (with_reducible refine Below.alloc ?_ ?_ _) | (with_reducible refine below_more ?_ ?_ _ _) | (with_reducible refine below_rd ?_ ?_ _ _) | (with_reducible refine Below.drew ?_) | (with_reducible refine Below.setCell ?_ ?_ _) | go_size)⟩
  · have hr2 : 0 ≤ r := hiff.2 rfl
    clear hb hiff
    go_wp2
    go_ret
    exact ⟨rfl, by repeat' (first | (with_reducible exact Below.refl _ _) | (with_reducible assumption) | (with_reducible refine Below.alloc ?_ ?_ _) | (with_reducible refine below_more ?_ ?_ _ _) | (with_reducible refine below_rd ?_ ?_ _ _) | (with_reducible refine Below.drew ?_) | (with_reducible refine Below.setCell ?_ ?_ _) | go_size)⟩
theorem designValid_any (a : Option Addr) (cap : Nat) (xs : List W9) (w : World) (h : HasW w a xs) (hn : xs.length ≤ 1048576) :
    Calls Tryz.prog 69 #[.slice a xs.length cap] w fun e w' => e = .returned (.bool (dvOk xs)) ∧ Below w.heap.size w w' := by
  have HW := Lib.hid h
  by_cases h1 : xs.length ≤ 12
  · rw [show dvOk xs = okAllW xs by rw [dvOk, decide_eq_true h1, Bool.true_and]]
    go_enter Tryz.func69, Tryz.ntmps69
    go_wp2_with (go_at_call 101; refine (containsFuncW_any _ _ _ _ HW.out hn).mono ?_; rintro e w' ⟨rfl, hb⟩; obtain ⟨os, d, rfl⟩ := more_of_below hb; clear hb)
    go_ret
    exact ⟨by simp, by repeat' (first | (with_reducible exact Below.refl _ _) | (with_reducible assumption) | (with_reducible refine Below.alloc ?_ ?_ _) | (with_reducible refine below_more ?_ ?_ _ _) | (with_reducible refine below_rd ?_ ?_ _ _) | (with_reducible refine Below.drew ?_) | (with_reducible refine Below.setCell ?_ ?_ _) | go_size)⟩
  · rw [show dvOk xs = false by rw [dvOk, decide_eq_false h1]; rfl]
    go_enter Tryz.func69, Tryz.ntmps69
    go_wp2
    go_ret
    exact ⟨rfl, by repeat' (first | (with_reducible exact Below.refl _ _) | (with_reducible assumption) | (with_reducible refine Below.alloc ?_ ?_ _) | (with_reducible refine below_more ?_ ?_ _ _) | (with_reducible refine below_rd ?_ ?_ _ _) | (with_reducible refine Below.drew ?_) | (with_reducible refine Below.setCell ?_ ?_ _) | go_size)⟩
set_option maxRecDepth 100000 in
set_option maxHeartbeats 1000000 in
theorem specDesignValid_any (a : Option Addr) (cap : Nat) (xs : List W9) (w : World) (h : HasW w a xs) (hn : xs.length ≤ 1048576) :
    Calls Tryz.prog 66 #[.slice a xs.length cap] w fun e w' => e = .returned (.bool (dvOk xs)) ∧ Below w.heap.size w w' := by
  by_cases h12 : xs.length ≤ 12
  · rw [show dvOk xs = okAllW xs by rw [dvOk, decide_eq_true h12, Bool.true_and]]
    rcases h with rfl | ⟨b, rfl, hb, hp⟩
    · go_enter Tryz.func66, Tryz.ntmps66
      go_wp2_with fail
      go_rounds 1
      all_goals
        go_ret
        exact ⟨rfl, by repeat' (first | (with_reducible exact Below.refl _ _) | (with_reducible assumption) | (with_reducible refine Below.alloc ?_ ?_ _) | (with_reducible refine below_more ?_ ?_ _ _) | (with_reducible refine below_rd ?_ ?_ _ _) | (with_reducible refine Below.drew ?_) | (with_reducible refine Below.setCell ?_ ?_ _) | go_size)⟩
    · have HP := Lib.hid hp
      clear hp
      obtain ⟨n, hn'⟩ : ∃ n, xs.length = n := ⟨_, rfl⟩
      rw [hn'] at hn h12 ⊢
      have HN := Lib.hid hn'
      clear hn'
      go_enter Tryz.func66, Tryz.ntmps66
      go_wp2
      go_loopw [3] (fun s wr => ∃ k : Nat, k ≤ n ∧ s = .int .i64 k ∧ Hid (∀ i, i < k → okW (xs.getD i W9.zero) = true) ∧ ∃ os d, wr = more w os d) (fun s _ => n - (intOf s).toNat)
      case atStart => exact ⟨0, by omega, rfl, fun i hi => by omega, _, _, more_self _⟩
      case round =>
        obtain ⟨k, hk, rfl, hall, os, d, rfl⟩ := hrel
        by_cases hlt : k < n
        · have hpk := (HP.out k (by rw [HN.out]; exact hlt)).more hb os d
          obtain ⟨x, hxk⟩ : ∃ x, xs.getD k W9.zero = x := ⟨_, rfl⟩
          rw [hxk] at hpk
          have HX := Lib.hid hxk
          clear hxk
          obtain ⟨x0, x1, x2, x3, x4, x5, x6, x7, x8⟩ := hpk.cells
          clear hpk
          have i0 : (0 : Int) ≤ (k : Int) := by omega
          have i1 : (k : Int) < (n : Int) := by omega
          rcases Bool.eq_false_or_eq_true (inB x.s (-1000) 1000) with h1 | h1
          · rcases Bool.eq_false_or_eq_true (okC x.r) with h2 | h2
            · have HIN := Lib.hid (show okW x = true by rw [okW, h1, h2]; rfl)
              go_wp2_with (first
                | (go_at_call 93; refine (l6In_any _ _ _ _).mono ?_; rintro e w' ⟨rfl, rfl⟩)
                | (go_at_call 98; refine (specCValid_any _ _).mono ?_; rintro e w' ⟨rfl, hb⟩; obtain ⟨os, d, rfl⟩ := more_of_below hb; clear hb))
              go_roundw
              case rel => exact ⟨k + 1, by omega, by go_num, fun j hj => by rcases Nat.lt_succ_iff_lt_or_eq.1 hj with h | rfl; exact hall.out j h; rw [HX.out]; exact HIN.out, (by repeat' (first | (with_reducible exact IsMore.refl _) | (with_reducible refine IsMore.alloc ?_ _) | (with_reducible refine IsMore.more ?_ _ _) | (with_reducible refine IsMore.drew ?_)) : IsMore _ _)⟩
              case measure => simp [intOf]; omega
            · have hno := okAllW_no (xs := xs) (i := k) (by rw [HN.out]; exact hlt) (by rw [HX.out, okW, h2, Bool.and_false])
              have HO := Lib.hid hno
              clear hno
              go_wp2_with (first
                | (go_at_call 93; refine (l6In_any _ _ _ _).mono ?_; rintro e w' ⟨rfl, rfl⟩)
                | (go_at_call 98; refine (specCValid_any _ _).mono ?_; rintro e w' ⟨rfl, hb⟩; obtain ⟨os, d, rfl⟩ := more_of_below hb; clear hb))
              go_ret
              exact ⟨by rw [HO.out]; rfl, by repeat' (first | (with_reducible exact Below.refl _ _) | (with_reducible assumption) | (with_reducible refine Below.alloc ?_ ?_ _) | (with_reducible refine below_more ?_ ?_ _ _) | (with_reducible refine below_rd ?_ ?_ _ _) | (with_reducible refine Below.drew ?_) | (with_reducible refine Below.setCell ?_ ?_ _) | go_size)⟩
          · have hno := okAllW_no (xs := xs) (i := k) (by rw [HN.out]; exact hlt) (by rw [HX.out, okW, h1]; rfl)
            have HO := Lib.hid hno
            clear hno
            go_wp2_with (first
              | (go_at_call 93; refine (l6In_any _ _ _ _).mono ?_; rintro e w' ⟨rfl, rfl⟩)
              | (go_at_call 98; refine (specCValid_any _ _).mono ?_; rintro e w' ⟨rfl, hb⟩; obtain ⟨os, d, rfl⟩ := more_of_below hb; clear hb))
            go_ret
            exact ⟨by rw [HO.out]; rfl, by repeat' (first | (with_reducible exact Below.refl _ _) | (with_reducible assumption) | (with_reducible refine Below.alloc ?_ ?_ _) | (with_reducible refine below_more ?_ ?_ _ _) | (with_reducible refine below_rd ?_ ?_ _ _) | (with_reducible refine Below.drew ?_) | (with_reducible refine Below.setCell ?_ ?_ _) | go_size)⟩
        · obtain rfl : k = n := by omega
          have hyes := okAllW_iff.2 (fun i hi => hall.out i (by rw [HN.out] at hi; exact hi) : ∀ i, i < xs.length → okW (xs.getD i W9.zero) = true)
          have HY := Lib.hid hyes
          clear hyes
          go_wp2
          go_ret
          exact ⟨by rw [HY.out]; rfl, by repeat' (first | (with_reducible exact Below.refl _ _) | (with_reducible assumption) | (with_reducible refine Below.alloc ?_ ?_ _) | (with_reducible refine below_more ?_ ?_ _ _) | (with_reducible refine below_rd ?_ ?_ _ _) | (with_reducible refine Below.drew ?_) | (with_reducible refine Below.setCell ?_ ?_ _) | go_size)⟩
  · rw [show dvOk xs = false by rw [dvOk, decide_eq_false h12]; rfl]
    go_enter Tryz.func66, Tryz.ntmps66
    go_wp2
    go_ret
    exact ⟨rfl, by repeat' (first | (with_reducible exact Below.refl _ _) | (with_reducible assumption) | (with_reducible refine Below.alloc ?_ ?_ _) | (with_reducible refine below_more ?_ ?_ _ _) | (with_reducible refine below_rd ?_ ?_ _ _) | (with_reducible refine Below.drew ?_) | (with_reducible refine Below.setCell ?_ ?_ _) | go_size)⟩
end Go.Proofs.YthojdoiffkdikaaGreatDoor
