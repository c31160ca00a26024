/- The reference's transforms. -/
import Derived.Test.YtelgbmebjickeaaTransB
import Derived.Test.YtelgbmebjickeaaRowF
namespace Go.Proofs.Ytelgbmebjickeaa
open Go.RowKit
attribute [local go_sem ↓] Go.wp_at_zero Go.wp_at_succ

set_option maxRecDepth 100000 in
set_option maxHeartbeats 4000000 in
theorem l6rTransform_some (b cap : Nat) (xs : List C8) (dir : Int) (w : World) (hd : dir = 1 ∨ dir = -1) (hb : b < w.heap.size) (hp : ∀ i, i < xs.length → PtAt w b (i * 8) (xs.getD i C8.zero)) (hv : rvOk xs = true) :
    Calls Try.prog 46 #[.slice (some ⟨b, 0, none⟩) xs.length cap, .int .i64 dir] w (RowPost w (trG dir xs xs.length) (trH dir xs)) := by
  have H1 := Lib.hid (show HasP w (some ⟨b, 0, none⟩) xs from Or.inr ⟨b, rfl, hb, hp⟩)
  have HP := Lib.hid hp
  have HV := Lib.hid (rvOk_get hv)
  have HRV := Lib.hid hv
  have HD := Lib.hid hd
  obtain ⟨hn1, hn2, -⟩ := (rvOk_get hv).1
  obtain ⟨ic, hi, hz0, hz1, hz2⟩ := infoC
  have HI := Lib.hid hi
  have HZ0 := Lib.hid hz0
  have HZ1 := Lib.hid hz1
  have HZ2 := Lib.hid hz2
  clear hp hi hz0 hz1 hz2 hd hv
  go_enter Try.func46, Try.ntmps46
  go_wp2_with fail
  refine (specRowValid_any _ _ xs _ (H1.out.alloc _) (by omega)).mono ?_
  rw [HRV.out]
  rintro e w' ⟨rfl, hb0⟩; obtain ⟨os0, d0, rfl⟩ := more_of_below hb0; clear hb0
  go_wp2_with fail
  go_loopw [6, 8] (fun s6 s wr => ∃ (j : Nat) (v : Value), j ≤ xs.length ∧ s = .int .i64 j ∧ v = s6 ∧ Hid (trG dir xs j = true) ∧ Hid (OwnsP wr w.heap.size v (trP dir xs j)) ∧ Below w.heap.size w wr) (fun _ s _ => xs.length - (intOf s).toNat)
  case atStart => exact ⟨0, _, by omega, rfl, rfl, rfl, OwnsP.more (OwnsP.empty rfl (Nat.le_refl _)) _ _, by repeat' (first | (with_reducible exact Below.refl _ _) | (with_reducible assumption) | (with_reducible refine Below.alloc ?_ ?_ _) | (with_reducible refine below_more ?_ ?_ _ _) | (with_reducible refine below_rd ?_ ?_ _ _) | (with_reducible refine Below.drew ?_) | (with_reducible refine Below.setCell ?_ ?_ _) | go_size)⟩
  case round =>
    obtain ⟨j, v, hj, rfl, rfl, hg, hown, hbel⟩ := hrel
    by_cases hlt : j < xs.length
    · have hz := hbel.size
      have lb : b < wr.heap.size := by omega
      go_wp2_with fail
      obtain ⟨w0, rfl⟩ : ∃ w0 : World, w0 = wr := ⟨_, rfl⟩
      go_loopw [10] (fun s wr => ∃ k : Nat, k ≤ xs.length ∧ s = .int .i64 k ∧ Hid (sumV (trF dir xs j) k = true) ∧ ∃ os d, wr = more (w0.alloc (.cells (row (sumP (trF dir xs j) k)) 42)) os d) (fun s _ => xs.length - (intOf s).toNat)
      case atStart => exact ⟨0, by omega, rfl, rfl, _, _, more_self _⟩
      case round =>
        obtain ⟨k, hk, rfl, hsv, os, d, rfl⟩ := hrel
        by_cases hltk : k < xs.length
        · obtain ⟨m1, m2, m3, q, m4, e1, e2, e3, e4, e5, e6, e7, b1, b2, b3, b4, b5, b6⟩ := trI_way HD.out HV.out.1.2.2 hn1 hn2 hlt hltk
          have f1 : IntKind.i64.wrap (dir * (j : Int)) = m1 := by rw [e1]; exact IntWalk.i64_in _ (by omega)
          have f2 : IntKind.i64.wrap (m1 * (k : Int)) = m2 := by rw [e2]; exact IntWalk.i64_in _ (by omega)
          have f6 : (24 : Int).tdiv (xs.length : Int) = q := by rw [← e4]; exact Int.tdiv_eq_ediv_of_nonneg (by omega)
          have f7 : IntKind.i64.wrap q = q := IntWalk.i64_in _ (by omega)
          obtain ⟨m5, h5⟩ : ∃ m5, m2 * q = m5 := ⟨_, rfl⟩
          rw [h5] at e6 b6
          have f5 : IntKind.i64.wrap (m2 * q) = m5 := by rw [h5]; exact IntWalk.i64_in _ (by omega)
          have HT := Lib.hid e6
          have HK := Lib.hid (show (xs.getD k C8.zero).turnW (trI dir xs.length j k) = trF dir xs j k from C8.turnW_lim (C8.lim_ok (HV.out.2 k hltk)) _ (Nat.le_of_lt (trI_lt _ _ _ _)))
          have HS := Lib.hid (show (sumP (trF dir xs j) k).sumW 1 (trF dir xs j k) = sumP (trF dir xs j) (k + 1) by
            rw [C8.sumW_eq, C8.sum_one]; exact add_wr_lim (sumV_ok hsv.out) (trF_lim HV.out.2 j k hltk))
          have hpk := PtAt.below (HP.out k hltk) hbel hb
          obtain ⟨x, hxk⟩ : ∃ x, xs.getD k C8.zero = x := ⟨_, rfl⟩
          rw [hxk] at hpk HK
          obtain ⟨x0, x1, x2, x3, x4, x5, x6, x7⟩ := hpk.cells
          have hn0 : ((xs.length : Int) == 0) = false := by rw [beq_eq_false_iff_ne]; omega
          have hn3 : ¬ xs.length = 0 := by omega
          have hn4 : ¬ (xs.length : Int) = 0 := by omega
          have i0 : (0 : Int) ≤ (k : Int) := by omega
          have i1 : (k : Int) < (xs.length : Int) := by omega
          clear hpk hxk e1 e2 e3 e5 e6 e7 h5
          go_wp2_with fail
          go_region_with (first
            | (go_at_call 78; refine (l1Mod_any _ (by omega) (by omega) _).mono ?_; rw [HT.out]; rintro e w' ⟨rfl, rfl⟩)
            | (go_at_call 77; refine (l2Turned_any _ _ (trI_lt _ _ _ _) _).mono ?_; rw [HK.out]; rintro e w' ⟨rfl, hb⟩; obtain ⟨os, d, rfl⟩ := more_of_below hb; clear hb)
            | (go_at_call 76; refine (l2Sum_any _ _ _ _).mono ?_; rw [HS.out]; rintro e w' ⟨rfl, hb⟩; obtain ⟨os, d, rfl⟩ := more_of_below hb; clear hb))
          all_goals
            rcases Bool.eq_false_or_eq_true (okC (sumP (trF dir xs j) (k + 1))) with hv | hv
            · have HG2 := Lib.hid (show sumV (trF dir xs j) (k + 1) = true by show (sumV (trF dir xs j) k && okC _) = true; rw [hsv.out, hv]; rfl)
              go_wp2_with (go_at_call 70; refine (specCValid_any _ _).mono ?_; rintro e w' ⟨rfl, hb⟩; obtain ⟨os, d, rfl⟩ := more_of_below hb; clear hb)
              go_roundw
              case rel => exact ⟨k + 1, by omega, by go_num, HG2, _, _, rfl⟩
              case measure => simp [intOf]; omega
            · have hno : trG dir xs xs.length = false := trG_no (k := j + 1) (by show (trG dir xs j && _) = false; rw [sumV_no (k := k + 1) (by show (sumV (trF dir xs j) k && okC _) = false; rw [hv, Bool.and_false]) _ (by omega), Bool.and_false]) _ (by omega)
              have HO := Lib.hid (And.intro hno (show trH dir xs = [] by rw [trH, hno]; rfl))
              clear hno
              go_wp2_with (go_at_call 70; refine (specCValid_any _ _).mono ?_; rintro e w' ⟨rfl, hb⟩; obtain ⟨os, d, rfl⟩ := more_of_below hb; clear hb)
              go_returns
              rw [HO.out.1, HO.out.2]
              exact ⟨_, rfl, OwnsP.empty (by (first | omega | (simp; omega) | (simp; done))) (by (first | omega | (simp; omega) | (simp; done))), by repeat' (first | (with_reducible exact Below.refl _ _) | (with_reducible assumption) | (with_reducible refine Below.alloc ?_ ?_ _) | (with_reducible refine below_more ?_ ?_ _ _) | (with_reducible refine below_rd ?_ ?_ _ _) | (with_reducible refine Below.drew ?_) | (with_reducible refine Below.setCell ?_ ?_ _) | go_size)⟩
        · obtain rfl : k = xs.length := by omega
          have HG2 := Lib.hid (show trG dir xs (j + 1) = true by show (trG dir xs j && _) = true; rw [hg.out, hsv.out]; rfl)
          have HP2 := Lib.hid (trP_succ dir xs j)
          go_wp2_with (at_builtin; (refine wpList_append_lies _ rfl _ _ _ rfl w.heap.size 42 ic (cv C8.zero) 8 64 Try.underlying24 HI.out HZ0.out HZ1.out HZ2.out rfl (by omega) v (trP dir xs j).length (rowsV (trP dir xs j)).toList (by rfl) (((hown.out.alloc _).more _ _).alloc _) ⟨w0.heap.size + 1 + os.size, 0, none⟩ 1 1 (row (sumP (trF dir xs j) xs.length)).toList (by rfl) (by rfl) (World.news_of_block (heap_at2 _ _ (by (first | omega | (simp; omega) | (simp; done))))) (rowL_ones _) (by omega) (by rw [trP_len]; unfold maxLen; omega) (by rw [trP_len]; omega) (by (first | omega | (simp; omega) | (simp; done))) _ rfl ?_; intro g cap2 w1 hown2 hgrow hat hlt2))
          refine ⟨⟨j + 1, _, by omega, by go_num, rfl, HG2, ?_, ?_⟩, by simp [intOf]; omega⟩
          · show OwnsP _ _ _ _; rw [HP2.out]; exact OwnsP.snoc hown2
          · exact below_grown (by repeat' (first | (with_reducible exact Below.refl _ _) | (with_reducible assumption) | (with_reducible refine Below.alloc ?_ ?_ _) | (with_reducible refine below_more ?_ ?_ _ _) | (with_reducible refine below_rd ?_ ?_ _ _) | (with_reducible refine Below.drew ?_) | (with_reducible refine Below.setCell ?_ ?_ _) | go_size)) hgrow hown.out.own_le (by (first | omega | (simp; omega) | (simp; done)))
    · obtain rfl : j = xs.length := by omega
      have HO := Lib.hid (And.intro hg.out (show trH dir xs = trP dir xs xs.length by rw [trH, hg.out]; rfl))
      go_wp2
      go_returns
      rw [HO.out.1, HO.out.2]
      exact ⟨_, rfl, hown.out, hbel⟩
theorem l6rTransform_any (a : Option Addr) (cap : Nat) (xs : List C8) (dir : Int) (hd : dir = 1 ∨ dir = -1) (w : World) (h : HasP w a xs) (hn : xs.length ≤ 1048576) :
    Calls Try.prog 46 #[.slice a xs.length cap, .int .i64 dir] w (RowPost w (trOk dir xs) (trR dir xs)) := by
  rcases Bool.eq_false_or_eq_true (rvOk xs) with hv | hv
  · rcases h with rfl | ⟨b, rfl, hb, hp⟩
    · simp [rvOk, rwLen] at hv
    · have e : trOk dir xs = trG dir xs xs.length := by rw [trOk, hv, Bool.true_and]
      have e2 : trR dir xs = trH dir xs := by rw [trR, e]; rfl
      rw [e, e2]
      exact l6rTransform_some b cap xs dir w hd hb hp hv
  · have H1 := Lib.hid h
    have e : trOk dir xs = false := by rw [trOk, hv]; rfl
    have HO := Lib.hid (And.intro e (show trR dir xs = [] by simp [trR, e]))
    have HV := Lib.hid hv
    clear h e hd hv
    go_enter Try.func46, Try.ntmps46
    go_wp2_with fail
    refine (specRowValid_any _ _ xs _ (H1.out.alloc _) (by omega)).mono ?_
    rw [HV.out]
    rintro e w' ⟨rfl, hb0⟩; obtain ⟨os0, d0, rfl⟩ := more_of_below hb0; clear hb0
    go_wp2
    go_returns
    rw [HO.out.1, HO.out.2]
    exact ⟨_, rfl, OwnsP.more (OwnsP.empty rfl (Nat.le_refl _)) _ _, by repeat' (first | (with_reducible exact Below.refl _ _) | (with_reducible assumption) | (with_reducible refine Below.alloc ?_ ?_ _) | (with_reducible refine below_more ?_ ?_ _ _) | (with_reducible refine below_rd ?_ ?_ _ _) | (with_reducible refine Below.drew ?_) | (with_reducible refine Below.setCell ?_ ?_ _) | go_size)⟩
theorem specTransformOf_any (a : Option Addr) (cap : Nat) (xs : List C8) (w : World) (h : HasP w a xs) (hn : xs.length ≤ 1048576) :
    Calls Try.prog 23 #[.slice a xs.length cap] w (RowPost w (trOk (-1) xs) (trR (-1) xs)) := by
  go_enter Try.func23, Try.ntmps23
  go_wp2_with fail
  refine (l6rTransform_any a cap xs (-1) (by decide) _ h hn).mono ?_
  rintro e w' ⟨v, rfl, hown, hbel⟩
  go_wp2
  go_returns
  exact ⟨_, rfl, hown, hbel⟩
theorem specTransformBack_any (a : Option Addr) (cap : Nat) (xs : List C8) (w : World) (h : HasP w a xs) (hn : xs.length ≤ 1048576) :
    Calls Try.prog 21 #[.slice a xs.length cap] w (RowPost w (trOk (1) xs) (trR (1) xs)) := by
  go_enter Try.func21, Try.ntmps21
  go_wp2_with fail
  refine (l6rTransform_any a cap xs (1) (by decide) _ h hn).mono ?_
  rintro e w' ⟨v, rfl, hown, hbel⟩
  go_wp2
  go_returns
  exact ⟨_, rfl, hown, hbel⟩

end Go.Proofs.Ytelgbmebjickeaa
