/- RowTimes of the reference. -/
import Derived.Test.YtelgbmebjickeaaRowE
namespace Go.Proofs.Ytelgbmebjickeaa
open Go.RowKit

theorem OwnsP.empty {w : World} {B g : Nat} (hg : g = w.heap.size) (hB : B ≤ w.heap.size) : OwnsP (w.alloc (.cells #[] 42)) B (.slice (some ⟨g, 0, none⟩) 0 0) [] := by
  subst hg
  exact ⟨by simp [rowsV], Or.inr ⟨w.heap.size, 0, _, rfl, hB, heap_alloc_new _ _, Nat.le_refl _, by unfold maxLen; omega, rfl, by simp [rowsV]⟩⟩
set_option maxRecDepth 100000 in
set_option maxHeartbeats 1000000 in
theorem specRowTimes_some (b b' cap cap' : Nat) (xs ys : List C8) (w : World) (hb : b < w.heap.size) (hb' : b' < w.heap.size) (hp : ∀ i, i < xs.length → PtAt w b (i * 8) (xs.getD i C8.zero)) (hp' : ∀ i, i < ys.length → PtAt w b' (i * 8) (ys.getD i C8.zero)) (hn : xs.length ≤ 1048576) (hn' : ys.length ≤ 1048576) (hv : twOk xs ys = true) :
    Calls Try.prog 15 #[.slice (some ⟨b, 0, none⟩) xs.length cap, .slice (some ⟨b', 0, none⟩) ys.length cap'] w (RowPost w (rtOk xs ys) (rtR xs ys)) := by
  have H1 := Lib.hid (show HasP w (some ⟨b, 0, none⟩) xs from Or.inr ⟨b, rfl, hb, hp⟩)
  have H2 := Lib.hid (show HasP w (some ⟨b', 0, none⟩) ys from Or.inr ⟨b', rfl, hb', hp'⟩)
  have HP := Lib.hid hp
  have HP' := Lib.hid hp'
  have hlen : xs.length = ys.length := by simp only [twOk, Bool.and_eq_true, decide_eq_true_eq] at hv; exact hv.2
  have HL := Lib.hid hlen
  have hmk := mkCyc0 xs.length hn
  obtain ⟨ic, hi, hz0, hz1, hz2⟩ := infoC
  have HI := Lib.hid hi
  have HZ0 := Lib.hid hz0
  have HZ1 := Lib.hid hz1
  have HZ2 := Lib.hid hz2
  clear hp hp' hlen hi hz0 hz1 hz2
  go_enter Try.func15, Try.ntmps15
  go_wp2_with fail
  (go_at_call 40; refine (l6rTwo_any _ _ _ _ _ _ _ (by first | exact H1.out | exact H1.out.alloc _) (by first | exact H2.out | exact H2.out.alloc _) hn hn').mono ?_; rintro e w' ⟨rfl, hb⟩; obtain ⟨os0, d0, rfl⟩ := more_of_below hb; clear hb)
  go_wp2_with fail
  go_loopw [6, 7] (fun s6 s wr => ∃ (k : Nat) (v : Value), k ≤ xs.length ∧ s = .int .i64 k ∧ v = s6 ∧ Hid (prG xs ys k = true) ∧ Hid (OwnsP wr w.heap.size v (prP xs ys k)) ∧ Below w.heap.size w wr) (fun _ s _ => xs.length - (intOf s).toNat)
  case atStart =>
    exact ⟨0, _, by omega, rfl, rfl, rfl, OwnsP.more (OwnsP.empty rfl (Nat.le_refl _)) _ _, by repeat' (first | (with_reducible exact Below.refl _ _) | (with_reducible assumption) | (with_reducible refine Below.alloc ?_ ?_ _) | (with_reducible refine below_more ?_ ?_ _ _) | (with_reducible refine below_rd ?_ ?_ _ _) | (with_reducible refine Below.drew ?_) | (with_reducible refine Below.setCell ?_ ?_ _) | go_size)⟩
  case round =>
    obtain ⟨k, v, hk, rfl, rfl, hg, hown, hbel⟩ := hrel
    by_cases hlt : k < xs.length
    · have hpk := (HP.out k hlt).below hbel hb
      have hpk' := (HP'.out k (by rw [← HL.out]; exact hlt)).below hbel hb'
      obtain ⟨x, hxk⟩ : ∃ x, xs.getD k C8.zero = x := ⟨_, rfl⟩
      obtain ⟨y, hyk⟩ : ∃ y, ys.getD k C8.zero = y := ⟨_, rfl⟩
      rw [hxk] at hpk
      rw [hyk] at hpk'
      have HX := Lib.hid hxk
      have HY := Lib.hid hyk
      clear hxk hyk
      obtain ⟨x0, x1, x2, x3, x4, x5, x6, x7⟩ := hpk.cells
      obtain ⟨y0, y1, y2, y3, y4, y5, y6, y7⟩ := hpk'.cells
      clear hpk hpk'
      have hz := hbel.size
      have lb : b < wr.heap.size := by omega
      have lb' : b' < wr.heap.size := by omega
      have i0 : (0 : Int) ≤ (k : Int) := by omega
      have i1 : (k : Int) < (xs.length : Int) := by omega
      have i2 : (k : Int) < (ys.length : Int) := by have := HL.out; omega
      rcases Bool.eq_false_or_eq_true (tmOk x y) with h1 | h1
      · have e1 : C8.tmR x y = C8.mul x y := by rw [C8.tmR, if_pos h1]
        have HG2 := Lib.hid (show prG xs ys (k + 1) = true by show (prG xs ys k && tmOk _ _) = true; rw [HX.out, HY.out, hg.out, h1]; rfl)
        have HP2 := Lib.hid (show prP xs ys (k + 1) = prP xs ys k ++ [C8.mul x y] by rw [prP_succ, HX.out, HY.out])
        go_wp2_with fail
        go_region_held3 (fun w' => (w'.cell? ⟨b, k * 8, none⟩ = some (.int .i64 x.c0) ∧ w'.cell? ⟨b, k * 8 + 1, none⟩ = some (.int .i64 x.c1) ∧ w'.cell? ⟨b, k * 8 + 2, none⟩ = some (.int .i64 x.c2) ∧ w'.cell? ⟨b, k * 8 + 3, none⟩ = some (.int .i64 x.c3) ∧ w'.cell? ⟨b, k * 8 + 4, none⟩ = some (.int .i64 x.c4) ∧ w'.cell? ⟨b, k * 8 + 5, none⟩ = some (.int .i64 x.c5) ∧ w'.cell? ⟨b, k * 8 + 6, none⟩ = some (.int .i64 x.c6) ∧ w'.cell? ⟨b, k * 8 + 7, none⟩ = some (.int .i64 x.c7)) ∧ (w'.cell? ⟨b', k * 8, none⟩ = some (.int .i64 y.c0) ∧ w'.cell? ⟨b', k * 8 + 1, none⟩ = some (.int .i64 y.c1) ∧ w'.cell? ⟨b', k * 8 + 2, none⟩ = some (.int .i64 y.c2) ∧ w'.cell? ⟨b', k * 8 + 3, none⟩ = some (.int .i64 y.c3) ∧ w'.cell? ⟨b', k * 8 + 4, none⟩ = some (.int .i64 y.c4) ∧ w'.cell? ⟨b', k * 8 + 5, none⟩ = some (.int .i64 y.c5) ∧ w'.cell? ⟨b', k * 8 + 6, none⟩ = some (.int .i64 y.c6) ∧ w'.cell? ⟨b', k * 8 + 7, none⟩ = some (.int .i64 y.c7))) (simp [go_sem, *])
          (first | (go_at_call 41; refine (specCycTimes_any _ _ _).mono ?_; rintro e w' ⟨rfl, hb⟩; obtain ⟨os, d, rfl⟩ := more_of_below hb; clear hb))
        all_goals
          go_wp2_with (first
            | (at_builtin; (refine wpList_append_lies _ rfl _ _ _ rfl w.heap.size 42 ic (cv C8.zero) 8 64 Try.underlying24 HI.out HZ0.out HZ1.out HZ2.out rfl (by omega) v (prP xs ys k).length (rowsV (prP xs ys k)).toList (by rfl) (((hown.out.more _ _).alloc _).alloc _) ⟨wr.heap.size + os.size + 1, 0, none⟩ 1 1 (row (C8.mul x y)).toList (by rfl) (by rfl) (World.news_of_block (heap_at2 _ _ (by (first | omega | (simp; omega) | (simp; done))))) (rowL_ones _) (by omega) (by rw [prP_len]; unfold maxLen; omega) (by rw [prP_len]; omega) (by (first | omega | (simp; omega) | (simp; done))) _ rfl ?_; intro g cap2 w1 hown2 hgrow hat hlt2))
            | (at_builtin; (refine wpList_append_lies _ rfl _ _ _ rfl w.heap.size 42 ic (cv C8.zero) 8 64 Try.underlying24 HI.out HZ0.out HZ1.out HZ2.out rfl (by omega) v (prP xs ys k).length (rowsV (prP xs ys k)).toList (by rfl) (((hown.out.alloc _).more _ _).alloc _) ⟨wr.heap.size + 1 + os.size, 0, none⟩ 1 1 (row (C8.mul x y)).toList (by rfl) (by rfl) (World.news_of_block (heap_at2 _ _ (by (first | omega | (simp; omega) | (simp; done))))) (rowL_ones _) (by omega) (by rw [prP_len]; unfold maxLen; omega) (by rw [prP_len]; omega) (by (first | omega | (simp; omega) | (simp; done))) _ rfl ?_; intro g cap2 w1 hown2 hgrow hat hlt2)))
          all_goals
            refine ⟨⟨k + 1, _, by omega, by go_num, rfl, HG2, ?_, ?_⟩, by simp [intOf]; omega⟩
          all_goals first
            | (show OwnsP _ _ _ _; rw [HP2.out]; exact OwnsP.snoc hown2)
            | exact below_grown (by repeat' (first | (with_reducible exact Below.refl _ _) | (with_reducible assumption) | (with_reducible refine Below.alloc ?_ ?_ _) | (with_reducible refine below_more ?_ ?_ _ _) | (with_reducible refine below_rd ?_ ?_ _ _) | (with_reducible refine Below.drew ?_) | (with_reducible refine Below.setCell ?_ ?_ _) | go_size)) hgrow hown.out.own_le (by (first | omega | (simp; omega) | (simp; done)))
      · have hno : rtOk xs ys = false := by
          have : prG xs ys (k + 1) = false := by show (prG xs ys k && tmOk _ _) = false; rw [HX.out, HY.out, hg.out, h1]; rfl
          rw [rtOk, prG_no this _ (by omega), Bool.and_false]
        have HO := Lib.hid (And.intro hno (show rtR xs ys = [] by simp [rtR, hno]))
        clear hno
        go_wp2_with fail
        go_region_held3 (fun w' => (w'.cell? ⟨b, k * 8, none⟩ = some (.int .i64 x.c0) ∧ w'.cell? ⟨b, k * 8 + 1, none⟩ = some (.int .i64 x.c1) ∧ w'.cell? ⟨b, k * 8 + 2, none⟩ = some (.int .i64 x.c2) ∧ w'.cell? ⟨b, k * 8 + 3, none⟩ = some (.int .i64 x.c3) ∧ w'.cell? ⟨b, k * 8 + 4, none⟩ = some (.int .i64 x.c4) ∧ w'.cell? ⟨b, k * 8 + 5, none⟩ = some (.int .i64 x.c5) ∧ w'.cell? ⟨b, k * 8 + 6, none⟩ = some (.int .i64 x.c6) ∧ w'.cell? ⟨b, k * 8 + 7, none⟩ = some (.int .i64 x.c7)) ∧ (w'.cell? ⟨b', k * 8, none⟩ = some (.int .i64 y.c0) ∧ w'.cell? ⟨b', k * 8 + 1, none⟩ = some (.int .i64 y.c1) ∧ w'.cell? ⟨b', k * 8 + 2, none⟩ = some (.int .i64 y.c2) ∧ w'.cell? ⟨b', k * 8 + 3, none⟩ = some (.int .i64 y.c3) ∧ w'.cell? ⟨b', k * 8 + 4, none⟩ = some (.int .i64 y.c4) ∧ w'.cell? ⟨b', k * 8 + 5, none⟩ = some (.int .i64 y.c5) ∧ w'.cell? ⟨b', k * 8 + 6, none⟩ = some (.int .i64 y.c6) ∧ w'.cell? ⟨b', k * 8 + 7, none⟩ = some (.int .i64 y.c7))) (simp [go_sem, *])
          (first | (go_at_call 41; refine (specCycTimes_any _ _ _).mono ?_; rintro e w' ⟨rfl, hb⟩; obtain ⟨os, d, rfl⟩ := more_of_below hb; clear hb))
        all_goals
          go_wp2
          go_returns
          rw [HO.out.1, HO.out.2]
          exact ⟨_, rfl, OwnsP.empty (by (first | omega | (simp; omega) | (simp; done))) (by (first | omega | (simp; omega) | (simp; done))), by repeat' (first | (with_reducible exact Below.refl _ _) | (with_reducible assumption) | (with_reducible refine Below.alloc ?_ ?_ _) | (with_reducible refine below_more ?_ ?_ _ _) | (with_reducible refine below_rd ?_ ?_ _ _) | (with_reducible refine Below.drew ?_) | (with_reducible refine Below.setCell ?_ ?_ _) | go_size)⟩
    · obtain rfl : k = xs.length := by omega
      have hyes : rtOk xs ys = true := by rw [rtOk, hv, hg.out]; rfl
      have HO := Lib.hid (And.intro hyes (show rtR xs ys = prP xs ys xs.length by simp [rtR, hyes]))
      clear hyes
      go_wp2
      go_returns
      rw [HO.out.1, HO.out.2]
      exact ⟨_, rfl, hown.out, hbel⟩
theorem specRowTimes_no (a a' : Option Addr) (cap cap' : Nat) (xs ys : List C8) (w : World) (h : HasP w a xs) (h' : HasP w a' ys) (hn : xs.length ≤ 1048576) (hn' : ys.length ≤ 1048576) (hv : twOk xs ys = false) :
    Calls Try.prog 15 #[.slice a xs.length cap, .slice a' ys.length cap'] w (RowPost w (rtOk xs ys) (rtR xs ys)) := by
  have H1 := Lib.hid h
  have H2 := Lib.hid h'
  have e : rtOk xs ys = false := by rw [rtOk, hv]; rfl
  have HO := Lib.hid (And.intro e (show rtR xs ys = [] by simp [rtR, e]))
  clear h h' e
  go_enter Try.func15, Try.ntmps15
  go_wp2_with fail
  (go_at_call 40; refine (l6rTwo_any _ _ _ _ _ _ _ (H1.out.alloc _) (H2.out.alloc _) hn hn').mono ?_; rintro e w' ⟨rfl, hb⟩; obtain ⟨os0, d0, rfl⟩ := more_of_below hb; clear hb)
  go_wp2
  go_returns
  rw [HO.out.1, HO.out.2]
  exact ⟨_, rfl, OwnsP.more (OwnsP.empty rfl (Nat.le_refl _)) _ _, by repeat' (first | (with_reducible exact Below.refl _ _) | (with_reducible assumption) | (with_reducible refine Below.alloc ?_ ?_ _) | (with_reducible refine below_more ?_ ?_ _ _) | (with_reducible refine below_rd ?_ ?_ _ _) | (with_reducible refine Below.drew ?_) | (with_reducible refine Below.setCell ?_ ?_ _) | go_size)⟩
theorem specRowTimes_any (a a' : Option Addr) (cap cap' : Nat) (xs ys : List C8) (w : World) (h : HasP w a xs) (h' : HasP w a' ys) (hn : xs.length ≤ 1048576) (hn' : ys.length ≤ 1048576) :
    Calls Try.prog 15 #[.slice a xs.length cap, .slice a' ys.length cap'] w (RowPost w (rtOk xs ys) (rtR xs ys)) := by
  rcases Bool.eq_false_or_eq_true (twOk xs ys) with hv | hv
  · rcases h with rfl | ⟨b, rfl, hb, hp⟩
    · simp [twOk, rvOk, rwLen] at hv
    · rcases h' with rfl | ⟨b', rfl, hb', hp'⟩
      · simp [twOk, rvOk, rwLen] at hv
      · exact specRowTimes_some b b' cap cap' xs ys w hb hb' hp hp' hn hn' hv
  · exact specRowTimes_no a a' cap cap' xs ys w h h' hn hn' hv
end Go.Proofs.Ytelgbmebjickeaa
