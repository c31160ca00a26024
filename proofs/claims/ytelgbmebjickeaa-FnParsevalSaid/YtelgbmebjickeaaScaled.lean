/- Multiples of points and of rows. -/
import Derived.Test.YtelgbmebjickeaaTransP
import Derived.Test.YtelgbmebjickeaaRowF
namespace Go.Proofs.Ytelgbmebjickeaa
open Go.RowKit

def C8.sclTo (a : C8) (n : Int) (k : Nat) : C8 := ⟨if 0 < k then wrap64 (a.c0 * n) else a.c0, if 1 < k then wrap64 (a.c1 * n) else a.c1, if 2 < k then wrap64 (a.c2 * n) else a.c2, if 3 < k then wrap64 (a.c3 * n) else a.c3, if 4 < k then wrap64 (a.c4 * n) else a.c4, if 5 < k then wrap64 (a.c5 * n) else a.c5, if 6 < k then wrap64 (a.c6 * n) else a.c6, if 7 < k then wrap64 (a.c7 * n) else a.c7⟩
theorem lt8 {k : Nat} (h : k < 8) : k = 0 ∨ k = 1 ∨ k = 2 ∨ k = 3 ∨ k = 4 ∨ k = 5 ∨ k = 6 ∨ k = 7 := by omega
theorem C8.sclTo_0 (a : C8) (n : Int) : a.sclTo n 0 = a := rfl
theorem C8.sclTo_g (a : C8) (n : Int) {k : Nat} (h : k < 8) : (a.sclTo n k).g k = a.g k := by
  rcases lt8 h with rfl | rfl | rfl | rfl | rfl | rfl | rfl | rfl <;> rfl
theorem C8.sclTo_upd (a : C8) (n : Int) {k : Nat} (h : k < 8) : (a.sclTo n k).upd k (wrap64 (a.g k * n)) = a.sclTo n (k + 1) := by
  rcases lt8 h with rfl | rfl | rfl | rfl | rfl | rfl | rfl | rfl <;> rfl
theorem mul_lim {x n : Int} (hx : -1000000 ≤ x ∧ x ≤ 1000000) (hn : -1000000 ≤ n ∧ n ≤ 1000000) : wrap64 (x * n) = n * x := by
  have := prod_bd hx hn
  rw [wrap_in (by omega) (by omega), Int.mul_comm]
theorem C8.sclTo_8 {a : C8} {n : Int} (ha : okC a = true) (hn : -1000000 ≤ n ∧ n ≤ 1000000) : a.sclTo n 8 = C8.scl n a := by
  obtain ⟨a0, a1, a2, a3, a4, a5, a6, a7⟩ := okC_bd ha
  apply C8.ext'
  · exact mul_lim a0 hn
  · exact mul_lim a1 hn
  · exact mul_lim a2 hn
  · exact mul_lim a3 hn
  · exact mul_lim a4 hn
  · exact mul_lim a5 hn
  · exact mul_lim a6 hn
  · exact mul_lim a7 hn
set_option maxRecDepth 100000 in
theorem cscaled_any (a : C8) (n : Int) (w : World) :
    Calls Try.prog 88 #[cv a, .int .i64 n] w fun e w' => e = .returned (cv (a.sclTo n 8)) ∧ Below w.heap.size w w' := by
  go_enter Try.func88, Try.ntmps88
  go_wp2
  go_loopw [6] (fun s wr => ∃ k : Nat, k ≤ 8 ∧ s = .int .i64 k ∧ wr = (w.alloc (.cells (row (a.sclTo n k)) 42)).alloc (.cells (row C8.zero) 42)) (fun s _ => 8 - (intOf s).toNat)
  case atStart => exact ⟨0, by omega, rfl, rfl⟩
  case round =>
    obtain ⟨k, hk, rfl, rfl⟩ := hrel
    by_cases hlt : k < 8
    · have r1 := row_g (a.sclTo n k) k hlt
      rw [C8.sclTo_g a n hlt] at r1
      have HU := Lib.hid (C8.sclTo_upd a n hlt)
      go_wp2
      go_roundw
      case rel => exact ⟨k + 1, by omega, by go_num, by rw [← HU.out]⟩
      case measure => simp [intOf]; omega
    · obtain rfl : k = 8 := by omega
      go_wp2
      go_returns
      exact ⟨rfl, by repeat' (first | (with_reducible exact Below.refl _ _) | (with_reducible assumption) | (with_reducible refine Below.alloc ?_ ?_ _) | (with_reducible refine below_more ?_ ?_ _ _) | (with_reducible refine below_rd ?_ ?_ _ _) | (with_reducible refine Below.drew ?_) | (with_reducible refine Below.setCell ?_ ?_ _) | go_size)⟩
def scOk (n : Int) (a : C8) : Bool := okC a && inB n (-1000000) 1000000 && okC (C8.scl n a)
def C8.scR (n : Int) (a : C8) : C8 := if scOk n a = true then C8.scl n a else C8.zero
set_option maxHeartbeats 1000000 in
theorem cycScale_any (a : C8) (n : Int) (hn : -1000000 ≤ n ∧ n ≤ 1000000) (w : World) :
    Calls Try.prog 65 #[cv a, .int .i64 n] w fun e w' => e = .returned (.tuple #[cv (C8.scR n a), .bool (scOk n a)]) ∧ Below w.heap.size w w' := by
  have hin : inB n (-1000000) 1000000 = true := inB_iff.2 hn
  rcases Bool.eq_false_or_eq_true (okC a) with h1 | h1
  · have K := Lib.hid (C8.sclTo_8 h1 hn)
    rcases Bool.eq_false_or_eq_true (okC (C8.scl n a)) with h3 | h3
    · have HO := Lib.hid (show scOk n a = true ∧ C8.scR n a = C8.scl n a from by
        have e : scOk n a = true := by rw [scOk, h1, hin, h3]; rfl
        exact ⟨e, by rw [C8.scR, if_pos e]⟩)
      go_enter Try.func65, Try.ntmps65
      go_wp2_with (first
        | (go_at_call 57; refine (cvalid_any _ _).mono ?_; rintro e w' ⟨rfl, hb⟩; obtain ⟨os, d, rfl⟩ := more_of_below hb; clear hb)
        | (go_at_call 54; refine (within_any _ _ _ _).mono ?_; rintro e w' ⟨rfl, rfl⟩)
        | (go_at_call 88; refine (cscaled_any _ _ _).mono ?_; rw [K.out]; rintro e w' ⟨rfl, hb⟩; obtain ⟨os, d, rfl⟩ := more_of_below hb; clear hb)
        | (go_at_call 60; refine (cmade_yes _ _ h3).mono ?_; rintro e w' ⟨rfl, hb⟩; obtain ⟨os, d, rfl⟩ := more_of_below hb; clear hb))
      go_returns
      exact ⟨by rw [HO.out.1, HO.out.2], by repeat' (first | (with_reducible exact Below.refl _ _) | (with_reducible assumption) | (with_reducible refine Below.alloc ?_ ?_ _) | (with_reducible refine below_more ?_ ?_ _ _) | (with_reducible refine below_rd ?_ ?_ _ _) | (with_reducible refine Below.drew ?_) | (with_reducible refine Below.setCell ?_ ?_ _) | go_size)⟩
    · have HO := Lib.hid (show scOk n a = false ∧ C8.scR n a = C8.zero from by
        have e : scOk n a = false := by rw [scOk, h3, Bool.and_false]
        exact ⟨e, by rw [C8.scR, e]; rfl⟩)
      go_enter Try.func65, Try.ntmps65
      go_wp2_with (first
        | (go_at_call 57; refine (cvalid_any _ _).mono ?_; rintro e w' ⟨rfl, hb⟩; obtain ⟨os, d, rfl⟩ := more_of_below hb; clear hb)
        | (go_at_call 54; refine (within_any _ _ _ _).mono ?_; rintro e w' ⟨rfl, rfl⟩)
        | (go_at_call 88; refine (cscaled_any _ _ _).mono ?_; rw [K.out]; rintro e w' ⟨rfl, hb⟩; obtain ⟨os, d, rfl⟩ := more_of_below hb; clear hb)
        | (go_at_call 60; refine (cmade_no _ _ h3).mono ?_; rintro e w' ⟨rfl, hb⟩; obtain ⟨os, d, rfl⟩ := more_of_below hb; clear hb))
      go_returns
      exact ⟨by rw [HO.out.1, HO.out.2], by repeat' (first | (with_reducible exact Below.refl _ _) | (with_reducible assumption) | (with_reducible refine Below.alloc ?_ ?_ _) | (with_reducible refine below_more ?_ ?_ _ _) | (with_reducible refine below_rd ?_ ?_ _ _) | (with_reducible refine Below.drew ?_) | (with_reducible refine Below.setCell ?_ ?_ _) | go_size)⟩
  · have HO := Lib.hid (show scOk n a = false ∧ C8.scR n a = C8.zero from by
      have e : scOk n a = false := by rw [scOk, h1]; rfl
      exact ⟨e, by rw [C8.scR, e]; rfl⟩)
    go_enter Try.func65, Try.ntmps65
    go_wp2_with (first
      | (go_at_call 57; refine (cvalid_any _ _).mono ?_; rintro e w' ⟨rfl, hb⟩; obtain ⟨os, d, rfl⟩ := more_of_below hb; clear hb)
      | (go_at_call 54; refine (within_any _ _ _ _).mono ?_; rintro e w' ⟨rfl, rfl⟩))
    go_returns
    exact ⟨by rw [HO.out.1, HO.out.2], by repeat' (first | (with_reducible exact Below.refl _ _) | (with_reducible assumption) | (with_reducible refine Below.alloc ?_ ?_ _) | (with_reducible refine below_more ?_ ?_ _ _) | (with_reducible refine below_rd ?_ ?_ _ _) | (with_reducible refine Below.drew ?_) | (with_reducible refine Below.setCell ?_ ?_ _) | go_size)⟩
/-- What scaled gives. -/
def ScalePost (w : World) (n : Int) (xs : List C8) (e : Ending) (w' : World) : Prop := ∃ v ok zs, e = .returned (.tuple #[v, .bool ok]) ∧ (ok = true → zs = xs.map (C8.scl n)) ∧ zs.length ≤ xs.length ∧ OwnsP w' w.heap.size v zs ∧ Below w.heap.size w w'
/-- The first multiples. -/
def sclL (n : Int) (xs : List C8) (k : Nat) : List C8 := (xs.take k).map (C8.scl n)
theorem map_take_succ (f : C8 → C8) (xs : List C8) (k : Nat) (h : k < xs.length) : (xs.take (k + 1)).map f = (xs.take k).map f ++ [f (xs.getD k C8.zero)] := by
  rw [List.take_succ_eq_append_getElem h, List.map_append, List.getD_eq_getElem?_getD, List.getElem?_eq_getElem h]; rfl
set_option maxRecDepth 100000 in
set_option maxHeartbeats 1000000 in
theorem scaled_some (b cap : Nat) (xs : List C8) (n : Int) (hn : -1000000 ≤ n ∧ n ≤ 1000000) (w : World) (hb : b < w.heap.size) (hp : ∀ i, i < xs.length → PtAt w b (i * 8) (xs.getD i C8.zero)) (hl : xs.length ≤ 1048576) :
    Calls Try.prog 34 #[.slice (some ⟨b, 0, none⟩) xs.length cap, .int .i64 n] w (ScalePost w n xs) := by
  have HP := Lib.hid hp
  have HN := Lib.hid hn
  obtain ⟨ic, hi, hz0, hz1, hz2⟩ := infoC
  have HI := Lib.hid hi
  have HZ0 := Lib.hid hz0
  have HZ1 := Lib.hid hz1
  have HZ2 := Lib.hid hz2
  clear hp hi hz0 hz1 hz2 hn
  go_enter Try.func34, Try.ntmps34
  go_wp2_with fail
  go_loopw [6, 7] (fun s6 s wr => ∃ (k : Nat) (v : Value), k ≤ xs.length ∧ s = .int .i64 k ∧ v = s6 ∧ Hid (OwnsP wr w.heap.size v (sclL n xs k)) ∧ Below w.heap.size w wr) (fun _ s _ => xs.length - (intOf s).toNat)
  case atStart => exact ⟨0, _, by omega, rfl, rfl, OwnsP.empty rfl (Nat.le_refl _), by repeat' (first | (with_reducible exact Below.refl _ _) | (with_reducible assumption) | (with_reducible refine Below.alloc ?_ ?_ _) | (with_reducible refine below_more ?_ ?_ _ _) | (with_reducible refine below_rd ?_ ?_ _ _) | (with_reducible refine Below.drew ?_) | (with_reducible refine Below.setCell ?_ ?_ _) | go_size)⟩
  case round =>
    obtain ⟨k, v, hk, rfl, rfl, hown, hbel⟩ := hrel
    have hlk : (sclL n xs k).length = k := by rw [sclL, List.length_map, List.length_take]; omega
    have HLK := Lib.hid hlk
    clear hlk
    by_cases hlt : k < xs.length
    · have hpk := PtAt.below (HP.out k hlt) hbel hb
      have HM := Lib.hid (show sclL n xs (k + 1) = sclL n xs k ++ [C8.scl n (xs.getD k C8.zero)] from map_take_succ (C8.scl n) xs k hlt)
      obtain ⟨x, hxk⟩ : ∃ x, xs.getD k C8.zero = x := ⟨_, rfl⟩
      rw [hxk] at hpk
      have HX := Lib.hid hxk
      clear hxk
      have HK := Lib.hid hpk
      have hz := hbel.size
      have lb : b < wr.heap.size := by omega
      have i0 : (0 : Int) ≤ (k : Int) := by omega
      have i1 : (k : Int) < (xs.length : Int) := by omega
      clear hpk
      rcases Bool.eq_false_or_eq_true (scOk n x) with h1 | h1
      · have e1 : C8.scR n x = C8.scl n x := by rw [C8.scR, if_pos h1]
        go_wp2_with (first
          | ((with_reducible refine wpList_load_pt (op := ⟨some 21, .load 42 (.tmp 20), _, _, _, _⟩) rfl _ _ rfl b (k * 8) _ HK.out _ Try.underlying42 rfl infoC8 ?_ ?_); (focus rfl))
          | (go_at_call 65; refine (cycScale_any _ _ HN.out _).mono ?_; rintro e w' ⟨rfl, hb⟩; obtain ⟨os, d, rfl⟩ := more_of_below hb; clear hb)
          | (at_builtin; (refine wpList_append_lies _ rfl _ _ _ rfl w.heap.size 42 ic (cv C8.zero) 8 64 Try.underlying24 HI.out HZ0.out HZ1.out HZ2.out rfl (by omega) v (sclL n xs k).length (rowsV (sclL n xs k)).toList (by rfl) (((hown.out.more _ _).alloc _).alloc _) ⟨wr.heap.size + os.size + 1, 0, none⟩ 1 1 (row (C8.scl n x)).toList (by rfl) (by rfl) (World.news_of_block (heap_at2 _ _ (by (first | omega | (simp; omega) | (simp; done))))) (rowL_ones _) (by omega) (by rw [HLK.out]; unfold maxLen; omega) (by rw [HLK.out]; omega) (by (first | omega | (simp; omega) | (simp; done))) _ rfl ?_; intro g cap2 w1 hown2 hgrow hat hlt2)))
        refine ⟨⟨k + 1, _, by omega, by go_num, rfl, ?_, ?_⟩, by simp [intOf]; omega⟩
        · show OwnsP _ _ _ _; rw [HM.out, HX.out]; exact OwnsP.snoc hown2
        · exact below_grown (by repeat' (first | (with_reducible exact Below.refl _ _) | (with_reducible assumption) | (with_reducible refine Below.alloc ?_ ?_ _) | (with_reducible refine below_more ?_ ?_ _ _) | (with_reducible refine below_rd ?_ ?_ _ _) | (with_reducible refine Below.drew ?_) | (with_reducible refine Below.setCell ?_ ?_ _) | go_size)) hgrow hown.out.own_le (by (first | omega | (simp; omega) | (simp; done)))
      · go_wp2_with (first
          | ((with_reducible refine wpList_load_pt (op := ⟨some 21, .load 42 (.tmp 20), _, _, _, _⟩) rfl _ _ rfl b (k * 8) _ HK.out _ Try.underlying42 rfl infoC8 ?_ ?_); (focus rfl))
          | (go_at_call 65; refine (cycScale_any _ _ HN.out _).mono ?_; rintro e w' ⟨rfl, hb⟩; obtain ⟨os, d, rfl⟩ := more_of_below hb; clear hb))
        go_returns
        exact ⟨_, false, _, rfl, (fun h => by cases h), by rw [HLK.out]; omega, (hown.out.more _ _).alloc _, by repeat' (first | (with_reducible exact Below.refl _ _) | (with_reducible assumption) | (with_reducible refine Below.alloc ?_ ?_ _) | (with_reducible refine below_more ?_ ?_ _ _) | (with_reducible refine below_rd ?_ ?_ _ _) | (with_reducible refine Below.drew ?_) | (with_reducible refine Below.setCell ?_ ?_ _) | go_size)⟩
    · obtain rfl : k = xs.length := by omega
      go_wp2
      go_returns
      exact ⟨_, true, _, rfl, (fun _ => by rw [sclL, List.take_length]), by rw [HLK.out]; omega, hown.out, hbel⟩
theorem scaled_own {B : Nat} {v : Value} {xs : List C8} {w : World} (h : OwnsP w B v xs) (n : Int) (hn : -1000000 ≤ n ∧ n ≤ 1000000) (hl : xs.length ≤ 1048576) :
    Calls Try.prog 34 #[v, .int .i64 n] w (ScalePost w n xs) := by
  obtain ⟨a, cap, rfl, hp⟩ := h.hasP
  rcases hp with rfl | ⟨b, rfl, hb, hz⟩
  · go_enter Try.func34, Try.ntmps34
    go_wp2
    go_rounds 1
    all_goals
      go_returns
      exact ⟨_, true, [], rfl, fun _ => rfl, Nat.le_refl _, OwnsP.empty rfl (Nat.le_refl _), by repeat' (first | (with_reducible exact Below.refl _ _) | (with_reducible assumption) | (with_reducible refine Below.alloc ?_ ?_ _) | (with_reducible refine below_more ?_ ?_ _ _) | (with_reducible refine below_rd ?_ ?_ _ _) | (with_reducible refine Below.drew ?_) | (with_reducible refine Below.setCell ?_ ?_ _) | go_size)⟩
  · exact scaled_some b cap xs n hn w hb hz hl

theorem list_getD {xs ys : List C8} (hl : xs.length = ys.length) (h : ∀ i, i < xs.length → xs.getD i C8.zero = ys.getD i C8.zero) : xs = ys := by
  apply List.ext_getElem? ; intro i
  by_cases hi : i < xs.length
  · have := h i hi
    rw [List.getD_eq_getElem?_getD, List.getD_eq_getElem?_getD, List.getElem?_eq_getElem hi, List.getElem?_eq_getElem (by omega)] at this
    rw [List.getElem?_eq_getElem hi, List.getElem?_eq_getElem (by omega)]
    exact congrArg some this
  · rw [List.getElem?_eq_none (by omega), List.getElem?_eq_none (by omega)]
theorem map_range_get (f : Nat → C8) (n i : Nat) (h : i < n) : ((List.range n).map f).getD i C8.zero = f i := by
  rw [List.getD_eq_getElem?_getD, List.getElem?_map, List.getElem?_range h]; rfl
theorem map_get (f : C8 → C8) (xs : List C8) (i : Nat) (h : i < xs.length) : (xs.map f).getD i C8.zero = f (xs.getD i C8.zero) := by
  rw [List.getD_eq_getElem?_getD, List.getElem?_map, List.getElem?_eq_getElem h, List.getD_eq_getElem?_getD, List.getElem?_eq_getElem h]; rfl
theorem trOk_row {d : Int} {xs : List C8} (h : trOk d xs = true) : rvOk xs = true := by
  simp only [trOk, Bool.and_eq_true] at h; exact h.1
theorem trR_yes {d : Int} {xs : List C8} (h : trOk d xs = true) : (trR d xs).length = xs.length ∧ ∀ j, j < xs.length → (trR d xs).getD j C8.zero = sumP (trF d xs j) xs.length := by
  rw [trR, if_pos h]
  exact ⟨trP_len _ _ _, fun j hj => map_range_get _ _ _ hj⟩
theorem tr_back {xs : List C8} (h : trOk (-1) xs = true) (h2 : trOk 1 (trR (-1) xs) = true) : trR 1 (trR (-1) xs) = xs.map (C8.scl xs.length) := by
  obtain ⟨⟨a, b, c⟩, -⟩ := rvOk_get (trOk_row h)
  obtain ⟨l1, g1⟩ := trR_yes h
  obtain ⟨l2, g2⟩ := trR_yes h2
  refine list_getD (by rw [l2, l1, List.length_map]) fun i hi => ?_
  rw [l2, l1] at hi
  rw [g2 i (by omega), map_get _ _ _ hi]
  exact trF_back l1 a b c g1 i hi
theorem tr_forth {xs : List C8} (h : trOk 1 xs = true) (h2 : trOk (-1) (trR 1 xs) = true) : trR (-1) (trR 1 xs) = xs.map (C8.scl xs.length) := by
  obtain ⟨⟨a, b, c⟩, -⟩ := rvOk_get (trOk_row h)
  obtain ⟨l1, g1⟩ := trR_yes h
  obtain ⟨l2, g2⟩ := trR_yes h2
  refine list_getD (by rw [l2, l1, List.length_map]) fun i hi => ?_
  rw [l2, l1] at hi
  rw [g2 i (by omega), map_get _ _ _ hi]
  exact trF_forth l1 a b c g1 i hi
end Go.Proofs.Ytelgbmebjickeaa
