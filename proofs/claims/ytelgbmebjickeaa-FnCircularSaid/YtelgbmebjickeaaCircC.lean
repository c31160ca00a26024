/- The reference's circular products. -/
import Derived.Test.YtelgbmebjickeaaCircB
import Derived.Test.YtelgbmebjickeaaRowF
namespace Go.Proofs.Ytelgbmebjickeaa
open Go.RowKit
attribute [local go_sem ↓] Go.wp_at_zero Go.wp_at_succ

theorem adOk_sum {f : Nat → C8} {k : Nat} (h : sumV f k = true) (hf : okC (f k) = true) : adOk (sumP f k) (f k) = okC (sumP f (k + 1)) := by
  rw [adOk, sumV_ok h, hf]; rfl

set_option maxRecDepth 100000 in
set_option maxHeartbeats 4000000 in
theorem specRowCircular_some (b b' cap cap' : Nat) (xs ys : List C8) (w : World) (hb : b < w.heap.size) (hb' : b' < w.heap.size) (hp : ∀ i, i < xs.length → PtAt w b (i * 8) (xs.getD i C8.zero)) (hp' : ∀ i, i < ys.length → PtAt w b' (i * 8) (ys.getD i C8.zero)) (hv : twOk xs ys = true) :
    Calls Try.prog 31 #[.slice (some ⟨b, 0, none⟩) xs.length cap, .slice (some ⟨b', 0, none⟩) ys.length cap'] w (RowPost w (rcG xs ys xs.length) (rcH xs ys)) := by
  have hv' := hv
  simp only [twOk, Bool.and_eq_true, decide_eq_true_eq] at hv'
  obtain ⟨⟨hv1, -⟩, hlen⟩ := hv'
  obtain ⟨hn1, hn2, -⟩ := (rvOk_get hv1).1
  have H1 := Lib.hid (show HasP w (some ⟨b, 0, none⟩) xs from Or.inr ⟨b, rfl, hb, hp⟩)
  have H2 := Lib.hid (show HasP w (some ⟨b', 0, none⟩) ys from Or.inr ⟨b', rfl, hb', hp'⟩)
  have HP := Lib.hid hp
  have HP' := Lib.hid hp'
  have HL := Lib.hid hlen
  have HV := Lib.hid hv
  have hn' : ys.length ≤ 24 := by omega
  obtain ⟨ic, hi, hz0, hz1, hz2⟩ := infoC
  have HI := Lib.hid hi
  have HZ0 := Lib.hid hz0
  have HZ1 := Lib.hid hz1
  have HZ2 := Lib.hid hz2
  clear hp hp' hi hz0 hz1 hz2 hv hv1 hlen
  go_enter Try.func31, Try.ntmps31
  go_wp2_with fail
  refine (l6rTwo_any _ _ _ _ xs ys _ (H1.out.alloc _) (H2.out.alloc _) (by omega) (by omega)).mono ?_
  rw [HV.out]
  rintro e w' ⟨rfl, hb0⟩; obtain ⟨os0, d0, rfl⟩ := more_of_below hb0; clear hb0
  go_wp2_with fail
  go_loopw [6, 8] (fun s6 s wr => ∃ (k : Nat) (v : Value), k ≤ xs.length ∧ s = .int .i64 k ∧ v = s6 ∧ Hid (rcG xs ys k = true) ∧ Hid (OwnsP wr w.heap.size v (rcP xs ys k)) ∧ Below w.heap.size w wr) (fun _ s _ => xs.length - (intOf s).toNat)
  case atStart => exact ⟨0, _, by omega, rfl, rfl, rfl, OwnsP.more (OwnsP.empty rfl (Nat.le_refl _)) _ _, by repeat' (first | (with_reducible exact Below.refl _ _) | (with_reducible assumption) | (with_reducible refine Below.alloc ?_ ?_ _) | (with_reducible refine below_more ?_ ?_ _ _) | (with_reducible refine below_rd ?_ ?_ _ _) | (with_reducible refine Below.drew ?_) | (with_reducible refine Below.setCell ?_ ?_ _) | go_size)⟩
  case round =>
    obtain ⟨k, v, hk, rfl, rfl, hg, hown, hbel⟩ := hrel
    by_cases hlt : k < xs.length
    · have hz := hbel.size
      have lb : b < wr.heap.size := by omega
      have lb' : b' < wr.heap.size := by omega
      go_wp2_with fail
      obtain ⟨w0, rfl⟩ : ∃ w0 : World, w0 = wr := ⟨_, rfl⟩
      go_loopw [10] (fun s wr => ∃ i : Nat, i ≤ xs.length ∧ s = .int .i64 i ∧ Hid (sumV (rcF xs ys k) i = true ∧ rcU xs ys k i = true) ∧ ∃ os d, wr = more (w0.alloc (.cells (row (sumP (rcF xs ys k) i)) 42)) os d) (fun s _ => xs.length - (intOf s).toNat)
      case atStart => exact ⟨0, by omega, rfl, ⟨rfl, rfl⟩, _, _, more_self _⟩
      case round =>
        obtain ⟨i, hi, rfl, hsv, os, d, rfl⟩ := hrel
        by_cases hlti : i < xs.length
        · have f1 : IntKind.i64.wrap ((k : Int) - (i : Int)) = (k : Int) - (i : Int) := IntWalk.i64_in _ (by omega)
          have f2 : IntKind.i64.wrap ((k : Int) - (i : Int) + (xs.length : Int)) = (k : Int) - (i : Int) + (xs.length : Int) := IntWalk.i64_in _ (by omega)
          have f3 := rcI_int (k := k) hlti
          have hltr := rcI_lt (n := xs.length) (i := i) hlt
          have hpk := PtAt.below (HP.out i hlti) hbel hb
          have hpk' := PtAt.below (HP'.out (rcI xs.length k i) (by rw [← HL.out]; exact hltr)) hbel hb'
          obtain ⟨x, hxk⟩ : ∃ x, xs.getD i C8.zero = x := ⟨_, rfl⟩
          obtain ⟨y, hyk⟩ : ∃ y, ys.getD (rcI xs.length k i) C8.zero = y := ⟨_, rfl⟩
          have HF := Lib.hid (show rcF xs ys k i = C8.tmR x y by rw [rcF, hxk, hyk])
          have HU := Lib.hid (show rcU xs ys k (i + 1) = tmOk x y by show (rcU xs ys k i && tmOk _ _) = _; rw [hsv.out.2, hxk, hyk, Bool.true_and])
          have HA := Lib.hid (show adOk (sumP (rcF xs ys k) i) (C8.tmR x y) = okC (sumP (rcF xs ys k) (i + 1)) by rw [← HF.out]; exact adOk_sum hsv.out.1 (tmR_ok _ _))
          rw [hxk] at hpk
          rw [hyk] at hpk'
          obtain ⟨r, hr⟩ : ∃ r, rcI xs.length k i = r := ⟨_, rfl⟩
          rw [hr] at f3 hltr hpk'
          have f4 : IntKind.i64.wrap (r : Int) = (r : Int) := IntWalk.i64_in _ (by omega)
          obtain ⟨x0, x1, x2, x3, x4, x5, x6, x7⟩ := hpk.cells
          obtain ⟨y0, y1, y2, y3, y4, y5, y6, y7⟩ := hpk'.cells
          have hn3 : ¬ xs.length = 0 := by omega
          have hn4 : ¬ (xs.length : Int) = 0 := by omega
          have i0 : (0 : Int) ≤ (i : Int) := by omega
          have i1 : (i : Int) < (xs.length : Int) := by omega
          have i2 : (0 : Int) ≤ (r : Int) := by omega
          have i3 : (r : Int) < (ys.length : Int) := by have := HL.out; omega
          clear hpk hpk' hxk hyk hr hltr
          go_wp2_with fail
          go_region_held3 (fun w' => (w'.cell? ⟨b, i * 8, none⟩ = some (.int .i64 x.c0) ∧ w'.cell? ⟨b, i * 8 + 1, none⟩ = some (.int .i64 x.c1) ∧ w'.cell? ⟨b, i * 8 + 2, none⟩ = some (.int .i64 x.c2) ∧ w'.cell? ⟨b, i * 8 + 3, none⟩ = some (.int .i64 x.c3) ∧ w'.cell? ⟨b, i * 8 + 4, none⟩ = some (.int .i64 x.c4) ∧ w'.cell? ⟨b, i * 8 + 5, none⟩ = some (.int .i64 x.c5) ∧ w'.cell? ⟨b, i * 8 + 6, none⟩ = some (.int .i64 x.c6) ∧ w'.cell? ⟨b, i * 8 + 7, none⟩ = some (.int .i64 x.c7)) ∧ (w'.cell? ⟨b', r * 8, none⟩ = some (.int .i64 y.c0) ∧ w'.cell? ⟨b', r * 8 + 1, none⟩ = some (.int .i64 y.c1) ∧ w'.cell? ⟨b', r * 8 + 2, none⟩ = some (.int .i64 y.c2) ∧ w'.cell? ⟨b', r * 8 + 3, none⟩ = some (.int .i64 y.c3) ∧ w'.cell? ⟨b', r * 8 + 4, none⟩ = some (.int .i64 y.c4) ∧ w'.cell? ⟨b', r * 8 + 5, none⟩ = some (.int .i64 y.c5) ∧ w'.cell? ⟨b', r * 8 + 6, none⟩ = some (.int .i64 y.c6) ∧ w'.cell? ⟨b', r * 8 + 7, none⟩ = some (.int .i64 y.c7))) (simp [go_sem, *])
            (first | (go_at_call 41; refine (specCycTimes_any _ _ _).mono ?_; rintro e w' ⟨rfl, hb⟩; obtain ⟨os, d, rfl⟩ := more_of_below hb; clear hb))
          all_goals
            rcases Bool.eq_false_or_eq_true (tmOk x y) with h1 | h1
            · rcases Bool.eq_false_or_eq_true (okC (sumP (rcF xs ys k) (i + 1))) with h2 | h2
              · have e1 : adOk (sumP (rcF xs ys k) i) (C8.tmR x y) = true := by rw [HA.out, h2]
                have e2 : C8.adR (sumP (rcF xs ys k) i) (C8.tmR x y) = sumP (rcF xs ys k) (i + 1) := by rw [C8.adR, if_pos e1, ← HF.out]; rfl
                have HG2 := Lib.hid (show sumV (rcF xs ys k) (i + 1) = true ∧ rcU xs ys k (i + 1) = true from ⟨by show (sumV (rcF xs ys k) i && okC _) = true; rw [hsv.out.1, h2]; rfl, by rw [HU.out, h1]⟩)
                clear h2
                go_wp2_with (go_at_call 61; refine (specCycAdd_any _ _ _).mono ?_; rintro e w' ⟨rfl, hb⟩; obtain ⟨os, d, rfl⟩ := more_of_below hb; clear hb)
                go_roundw
                case rel => exact ⟨i + 1, by omega, by go_num, HG2, (by repeat' (first | (with_reducible exact IsMore.refl _) | (with_reducible refine IsMore.alloc ?_ _) | (with_reducible refine IsMore.more ?_ _ _) | (with_reducible refine IsMore.drew ?_)) : IsMore _ _)⟩
                case measure => simp [intOf]; omega
              · have e1 : adOk (sumP (rcF xs ys k) i) (C8.tmR x y) = false := by rw [HA.out, h2]
                have hno : rcG xs ys xs.length = false := rcG_no (k := k + 1) (by show (rcG xs ys k && _) = false; rw [sumV_no (k := i + 1) (by show (sumV (rcF xs ys k) i && okC _) = false; rw [h2, Bool.and_false]) _ (by omega), Bool.false_and, Bool.and_false]) _ (by omega)
                have HO := Lib.hid (And.intro hno (show rcH xs ys = [] by rw [rcH, hno]; rfl))
                clear hno h2
                go_wp2_with (go_at_call 61; refine (specCycAdd_any _ _ _).mono ?_; rintro e w' ⟨rfl, hb⟩; obtain ⟨os, d, rfl⟩ := more_of_below hb; clear hb)
                go_returns
                rw [HO.out.1, HO.out.2]
                exact ⟨_, rfl, OwnsP.empty (by (first | omega | (simp; omega) | (simp; done))) (by (first | omega | (simp; omega) | (simp; done))), by repeat' (first | (with_reducible exact Below.refl _ _) | (with_reducible assumption) | (with_reducible refine Below.alloc ?_ ?_ _) | (with_reducible refine below_more ?_ ?_ _ _) | (with_reducible refine below_rd ?_ ?_ _ _) | (with_reducible refine Below.drew ?_) | (with_reducible refine Below.setCell ?_ ?_ _) | go_size)⟩
            · have hno : rcG xs ys xs.length = false := rcG_no (k := k + 1) (by show (rcG xs ys k && _) = false; rw [rcU_no (i := i + 1) (by rw [HU.out, h1]) _ (by omega), Bool.and_false, Bool.and_false]) _ (by omega)
              have HO := Lib.hid (And.intro hno (show rcH xs ys = [] by rw [rcH, hno]; rfl))
              clear hno
              go_wp2_with (go_at_call 61; refine (specCycAdd_any _ _ _).mono ?_; rintro e w' ⟨rfl, hb⟩; obtain ⟨os, d, rfl⟩ := more_of_below hb; clear hb)
              go_returns
              rw [HO.out.1, HO.out.2]
              exact ⟨_, rfl, OwnsP.empty (by (first | omega | (simp; omega) | (simp; done))) (by (first | omega | (simp; omega) | (simp; done))), by repeat' (first | (with_reducible exact Below.refl _ _) | (with_reducible assumption) | (with_reducible refine Below.alloc ?_ ?_ _) | (with_reducible refine below_more ?_ ?_ _ _) | (with_reducible refine below_rd ?_ ?_ _ _) | (with_reducible refine Below.drew ?_) | (with_reducible refine Below.setCell ?_ ?_ _) | go_size)⟩
        · obtain rfl : i = xs.length := by omega
          have HG2 := Lib.hid (show rcG xs ys (k + 1) = true by show (rcG xs ys k && _) = true; rw [hg.out, hsv.out.1, hsv.out.2]; rfl)
          have HP2 := Lib.hid (rcP_succ xs ys k)
          go_wp2_with (at_builtin; (refine wpList_append_lies _ rfl _ _ _ rfl w.heap.size 42 ic (cv C8.zero) 8 64 Try.underlying24 HI.out HZ0.out HZ1.out HZ2.out rfl (by omega) v (rcP xs ys k).length (rowsV (rcP xs ys k)).toList (by rfl) (((hown.out.alloc _).more _ _).alloc _) ⟨w0.heap.size + 1 + os.size, 0, none⟩ 1 1 (row (sumP (rcF xs ys k) xs.length)).toList (by rfl) (by rfl) (World.news_of_block (heap_at2 _ _ (by (first | omega | (simp; omega) | (simp; done))))) (rowL_ones _) (by omega) (by rw [rcP_len]; unfold maxLen; omega) (by rw [rcP_len]; omega) (by (first | omega | (simp; omega) | (simp; done))) _ rfl ?_; intro g cap2 w1 hown2 hgrow hat hlt2))
          refine ⟨⟨k + 1, _, by omega, by go_num, rfl, HG2, ?_, ?_⟩, by simp [intOf]; omega⟩
          · show OwnsP _ _ _ _; rw [HP2.out]; exact OwnsP.snoc hown2
          · exact below_grown (by repeat' (first | (with_reducible exact Below.refl _ _) | (with_reducible assumption) | (with_reducible refine Below.alloc ?_ ?_ _) | (with_reducible refine below_more ?_ ?_ _ _) | (with_reducible refine below_rd ?_ ?_ _ _) | (with_reducible refine Below.drew ?_) | (with_reducible refine Below.setCell ?_ ?_ _) | go_size)) hgrow hown.out.own_le (by (first | omega | (simp; omega) | (simp; done)))
    · obtain rfl : k = xs.length := by omega
      have HO := Lib.hid (And.intro hg.out (show rcH xs ys = rcP xs ys xs.length by rw [rcH, hg.out]; rfl))
      go_wp2
      go_returns
      rw [HO.out.1, HO.out.2]
      exact ⟨_, rfl, hown.out, hbel⟩
theorem specRowCircular_any (a a' : Option Addr) (cap cap' : Nat) (xs ys : List C8) (w : World) (h : HasP w a xs) (h' : HasP w a' ys) (hn : xs.length ≤ 1048576) (hn' : ys.length ≤ 1048576) :
    Calls Try.prog 31 #[.slice a xs.length cap, .slice a' ys.length cap'] w (RowPost w (rcOk xs ys) (rcR xs ys)) := by
  rcases Bool.eq_false_or_eq_true (twOk xs ys) with hv | hv
  · have e : rcOk xs ys = rcG xs ys xs.length := by rw [rcOk, hv, Bool.true_and]
    have e2 : rcR xs ys = rcH xs ys := by rw [rcR, e]; rfl
    rw [e, e2]
    rcases h with rfl | ⟨b, rfl, hb, hp⟩
    · simp [twOk, rvOk, rwLen] at hv
    · rcases h' with rfl | ⟨b', rfl, hb', hp'⟩
      · simp [twOk, rvOk, rwLen] at hv
      · exact specRowCircular_some b b' cap cap' xs ys w hb hb' hp hp' hv
  · have H1 := Lib.hid h
    have H2 := Lib.hid h'
    have e : rcOk xs ys = false := by rw [rcOk, hv]; rfl
    have HO := Lib.hid (And.intro e (show rcR xs ys = [] by simp [rcR, e]))
    have HV := Lib.hid hv
    clear h h' e hv
    go_enter Try.func31, Try.ntmps31
    go_wp2_with fail
    refine (l6rTwo_any _ _ _ _ xs ys _ (H1.out.alloc _) (H2.out.alloc _) hn hn').mono ?_
    rw [HV.out]
    rintro e w' ⟨rfl, hb0⟩; obtain ⟨os0, d0, rfl⟩ := more_of_below hb0; clear hb0
    go_wp2
    go_returns
    rw [HO.out.1, HO.out.2]
    exact ⟨_, rfl, OwnsP.more (OwnsP.empty rfl (Nat.le_refl _)) _ _, by repeat' (first | (with_reducible exact Below.refl _ _) | (with_reducible assumption) | (with_reducible refine Below.alloc ?_ ?_ _) | (with_reducible refine below_more ?_ ?_ _ _) | (with_reducible refine below_rd ?_ ?_ _ _) | (with_reducible refine Below.drew ?_) | (with_reducible refine Below.setCell ?_ ?_ _) | go_size)⟩
end Go.Proofs.Ytelgbmebjickeaa
