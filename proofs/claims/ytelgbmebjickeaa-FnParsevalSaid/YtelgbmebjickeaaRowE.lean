/- RowTimes, of the program and of the reference. -/
import Derived.Test.YtelgbmebjickeaaRowD
namespace Go.Proofs.Ytelgbmebjickeaa
open Go.RowKit

theorem mkCyc0 (n : Nat) (h : n ≤ 1048576) (w : World) : (Instr.makeSlice 24 (.int .i64 0) (.int .i64 (n : Int))).run Try.prog w = .ok (.slice (some ⟨w.heap.size, 0, none⟩) 0 n) (w.alloc (.cells (rowsV (List.replicate n C8.zero)) 42)) := by
  have h0 := zeroC8
  cases hq : Try.prog.info? 42 with
  | none => rw [hq] at h0; cases h0
  | some i =>
    rw [hq] at h0
    simp only [Option.map_some, Option.some.injEq, Prod.mk.injEq] at h0
    have := run_make (P := Try.prog) w 24 42 i (cv C8.zero) Try.underlying24 hq h0.1 .i64 .i64 0 n (by omega) (by omega) (by rw [h0.2.2]; omega) (by omega)
    rw [this, h0.2.1]
    simp only [Int.toNat_natCast, Int.toNat_zero]
    rw [show (cv C8.zero).cells = row C8.zero from rfl, made_rows]
theorem infoC : ∃ i, Try.prog.info? 42 = some i ∧ i.zero = some (cv C8.zero) ∧ i.size = 8 ∧ i.bytes = 64 := by
  have h0 := zeroC8
  cases hq : Try.prog.info? 42 with
  | none => rw [hq] at h0; cases h0
  | some i =>
    rw [hq] at h0
    simp only [Option.map_some, Option.some.injEq, Prod.mk.injEq] at h0
    exact ⟨i, rfl, h0.1, h0.2.1, h0.2.2⟩
/-- What was appended to a row that the call owns is Below, too. -/
theorem below_grown {B : Nat} {a w w' : World} {v : Value} (h : Below B a w) (hg : w.grownBy w' v.ownBlock) (hB : ∀ k, v.ownBlock = some k → B ≤ k) (hs : B ≤ w.heap.size) : Below B a w' :=
  h.trans ⟨hg.os, hg.tape, hg.output, hg.size, fun k hk => hg.block k (by omega) (fun e => by have := hB k e.symm; omega)⟩
theorem OwnsP.own_le {w : World} {B : Nat} {v : Value} {ys : List C8} (h : OwnsP w B v ys) : ∀ k, v.ownBlock = some k → B ≤ k := fun k hk => (World.ownsRow.lt h k hk).1

@[go_sem] theorem fold_row (a : C8) : Array.foldl (fun (cs : Array Value) (x : Value × Nat) => cs.setIfInBounds x.snd x.fst) #[(row C8.zero)[0]!, (row C8.zero)[1]!, (row C8.zero)[2]!, (row C8.zero)[3]!, (row C8.zero)[4]!, (row C8.zero)[5]!, (row C8.zero)[6]!, (row C8.zero)[7]!] ((row a).zipIdx 0) 0 8 = row a := by
  have e : ((row a).zipIdx 0) = #[(.int .i64 a.c0, 0), (.int .i64 a.c1, 1), (.int .i64 a.c2, 2), (.int .i64 a.c3, 3), (.int .i64 a.c4, 4), (.int .i64 a.c5, 5), (.int .i64 a.c6, 6), (.int .i64 a.c7, 7)] := by
    simp [row]
  rw [e]
  simp [row]
theorem heap_at2 {w : World} (o : Obj) (n : Nat) (hn : n = w.heap.size) : (w.alloc o).heap[n]? = some o := by subst hn; exact heap_alloc_new w o
theorem rowL_ones (a : C8) : ∀ u ∈ (row a).toList, u.oneCell' = true := fun u hu => Array.all_eq_true_iff_forall_mem.1 (rowL_one a) u (by simpa using hu)
theorem OwnsP.snoc {w : World} {B : Nat} {v : Value} {ys : List C8} {x : C8} (h : w.ownsRow B 42 8 v (ys.length + 1) ((rowsV ys).toList ++ (row x).toList)) : OwnsP w B v (ys ++ [x]) := by
  unfold OwnsP; rw [rowsV_snoc, List.length_append]; exact h
set_option maxRecDepth 100000 in
set_option maxHeartbeats 1000000 in
theorem rowTimes_some (b b' cap cap' : Nat) (xs ys : List C8) (w : World) (hb : b < w.heap.size) (hb' : b' < w.heap.size) (hp : ∀ i, i < xs.length → PtAt w b (i * 8) (xs.getD i C8.zero)) (hp' : ∀ i, i < ys.length → PtAt w b' (i * 8) (ys.getD i C8.zero)) (hn : xs.length ≤ 1048576) (hn' : ys.length ≤ 1048576) (hv : twOk xs ys = true) :
    Calls Try.prog 17 #[.slice (some ⟨b, 0, none⟩) xs.length cap, .slice (some ⟨b', 0, none⟩) ys.length cap'] w (RowPost w (rtOk xs ys) (rtR xs ys)) := by
  have H1 := Lib.hid (show HasP w (some ⟨b, 0, none⟩) xs from Or.inr ⟨b, rfl, hb, hp⟩)
  have H2 := Lib.hid (show HasP w (some ⟨b', 0, none⟩) ys from Or.inr ⟨b', rfl, hb', hp'⟩)
  have HP := Lib.hid hp
  have HP' := Lib.hid hp'
  have hlen : xs.length = ys.length := by simp only [twOk, Bool.and_eq_true, decide_eq_true_eq] at hv; exact hv.2
  have HL := Lib.hid hlen
  have hmk := mkCyc0 xs.length hn
  obtain ⟨ic, hi, hz0, hz1, hz2⟩ := infoC
  have HI := Lib.hid hi
  have HZ0 := Lib.hid hz0
  have HZ1 := Lib.hid hz1
  have HZ2 := Lib.hid hz2
  clear hp hp' hlen hi hz0 hz1 hz2
  go_enter Try.func17, Try.ntmps17
  go_wp2_with fail
  (go_at_call 43; refine (rowsValid_any _ _ _ _ _ _ _ H1.out H2.out hn hn').mono ?_; rintro e w' ⟨rfl, hb⟩; obtain ⟨os0, d0, rfl⟩ := more_of_below hb; clear hb)
  go_wp2_with fail
  go_loopw [6, 19] (fun s6 s wr => ∃ (k : Nat) (v : Value), k ≤ xs.length ∧ s = .int .i64 k ∧ v = s6 ∧ Hid (prG xs ys k = true) ∧ Hid (OwnsP wr w.heap.size v (prP xs ys k)) ∧ Below w.heap.size w wr) (fun _ s _ => xs.length - (intOf s).toNat)
  case atStart => exact ⟨0, _, by omega, rfl, rfl, rfl, (by have := OwnsP.made (more w os0 d0) w.heap.size xs.length (by (first | omega | (simp; omega) | (simp; done))) hn; rw [size_more] at this; exact this), by repeat' (first | (with_reducible exact Below.refl _ _) | (with_reducible assumption) | (with_reducible refine Below.alloc ?_ ?_ _) | (with_reducible refine below_more ?_ ?_ _ _) | (with_reducible refine below_rd ?_ ?_ _ _) | (with_reducible refine Below.drew ?_) | (with_reducible refine Below.setCell ?_ ?_ _) | go_size)⟩
  case round =>
    obtain ⟨k, v, hk, rfl, rfl, hg, hown, hbel⟩ := hrel
    by_cases hlt : k < xs.length
    · have hpk := (HP.out k hlt).below hbel hb
      have hpk' := (HP'.out k (by rw [← HL.out]; exact hlt)).below hbel hb'
      obtain ⟨x, hxk⟩ : ∃ x, xs.getD k C8.zero = x := ⟨_, rfl⟩
      obtain ⟨y, hyk⟩ : ∃ y, ys.getD k C8.zero = y := ⟨_, rfl⟩
      rw [hxk] at hpk
      rw [hyk] at hpk'
      have HX := Lib.hid hxk
      have HY := Lib.hid hyk
      clear hxk hyk
      obtain ⟨x0, x1, x2, x3, x4, x5, x6, x7⟩ := hpk.cells
      obtain ⟨y0, y1, y2, y3, y4, y5, y6, y7⟩ := hpk'.cells
      clear hpk hpk'
      have hz := hbel.size
      have lb : b < wr.heap.size := by omega
      have lb' : b' < wr.heap.size := by omega
      have i0 : (0 : Int) ≤ (k : Int) := by omega
      have i1 : (k : Int) < (xs.length : Int) := by omega
      have i2 : (k : Int) < (ys.length : Int) := by have := HL.out; omega
      rcases Bool.eq_false_or_eq_true (tmOk x y) with h1 | h1
      · have e1 : C8.tmR x y = C8.mul x y := by rw [C8.tmR, if_pos h1]
        have HG2 := Lib.hid (show prG xs ys (k + 1) = true by show (prG xs ys k && tmOk _ _) = true; rw [HX.out, HY.out, hg.out, h1]; rfl)
        have HP2 := Lib.hid (show prP xs ys (k + 1) = prP xs ys k ++ [C8.mul x y] by rw [prP_succ, HX.out, HY.out])
        go_wp2_with fail
        go_region_held3 (fun w' => (w'.cell? ⟨b, k * 8, none⟩ = some (.int .i64 x.c0) ∧ w'.cell? ⟨b, k * 8 + 1, none⟩ = some (.int .i64 x.c1) ∧ w'.cell? ⟨b, k * 8 + 2, none⟩ = some (.int .i64 x.c2) ∧ w'.cell? ⟨b, k * 8 + 3, none⟩ = some (.int .i64 x.c3) ∧ w'.cell? ⟨b, k * 8 + 4, none⟩ = some (.int .i64 x.c4) ∧ w'.cell? ⟨b, k * 8 + 5, none⟩ = some (.int .i64 x.c5) ∧ w'.cell? ⟨b, k * 8 + 6, none⟩ = some (.int .i64 x.c6) ∧ w'.cell? ⟨b, k * 8 + 7, none⟩ = some (.int .i64 x.c7)) ∧ (w'.cell? ⟨b', k * 8, none⟩ = some (.int .i64 y.c0) ∧ w'.cell? ⟨b', k * 8 + 1, none⟩ = some (.int .i64 y.c1) ∧ w'.cell? ⟨b', k * 8 + 2, none⟩ = some (.int .i64 y.c2) ∧ w'.cell? ⟨b', k * 8 + 3, none⟩ = some (.int .i64 y.c3) ∧ w'.cell? ⟨b', k * 8 + 4, none⟩ = some (.int .i64 y.c4) ∧ w'.cell? ⟨b', k * 8 + 5, none⟩ = some (.int .i64 y.c5) ∧ w'.cell? ⟨b', k * 8 + 6, none⟩ = some (.int .i64 y.c6) ∧ w'.cell? ⟨b', k * 8 + 7, none⟩ = some (.int .i64 y.c7))) (simp [go_sem, *])
          (first | (go_at_call 44; refine (cycTimes_any _ _ _).mono ?_; rintro e w' ⟨rfl, hb⟩; obtain ⟨os, d, rfl⟩ := more_of_below hb; clear hb))
        all_goals
          go_wp2_with (first
            | (at_builtin; (refine wpList_append_lies _ rfl _ _ _ rfl w.heap.size 42 ic (cv C8.zero) 8 64 Try.underlying24 HI.out HZ0.out HZ1.out HZ2.out rfl (by omega) v (prP xs ys k).length (rowsV (prP xs ys k)).toList (by rfl) (((hown.out.more _ _).alloc _).alloc _) ⟨wr.heap.size + os.size + 1, 0, none⟩ 1 1 (row (C8.mul x y)).toList (by rfl) (by rfl) (World.news_of_block (heap_at2 _ _ (by (first | omega | (simp; omega) | (simp; done))))) (rowL_ones _) (by omega) (by rw [prP_len]; unfold maxLen; omega) (by rw [prP_len]; omega) (by (first | omega | (simp; omega) | (simp; done))) _ rfl ?_; intro g cap2 w1 hown2 hgrow hat hlt2))
            | (at_builtin; (refine wpList_append_lies _ rfl _ _ _ rfl w.heap.size 42 ic (cv C8.zero) 8 64 Try.underlying24 HI.out HZ0.out HZ1.out HZ2.out rfl (by omega) v (prP xs ys k).length (rowsV (prP xs ys k)).toList (by rfl) (((hown.out.alloc _).more _ _).alloc _) ⟨wr.heap.size + 1 + os.size, 0, none⟩ 1 1 (row (C8.mul x y)).toList (by rfl) (by rfl) (World.news_of_block (heap_at2 _ _ (by (first | omega | (simp; omega) | (simp; done))))) (rowL_ones _) (by omega) (by rw [prP_len]; unfold maxLen; omega) (by rw [prP_len]; omega) (by (first | omega | (simp; omega) | (simp; done))) _ rfl ?_; intro g cap2 w1 hown2 hgrow hat hlt2)))
          all_goals
            refine ⟨⟨k + 1, _, by omega, by go_num, rfl, HG2, ?_, ?_⟩, by simp [intOf]; omega⟩
          all_goals first
            | (show OwnsP _ _ _ _; rw [HP2.out]; exact OwnsP.snoc hown2)
            | exact below_grown (by repeat' (first | (with_reducible exact Below.refl _ _) | (with_reducible assumption) | (with_reducible refine Below.alloc ?_ ?_ _) | (with_reducible refine below_more ?_ ?_ _ _) | (with_reducible refine below_rd ?_ ?_ _ _) | (with_reducible refine Below.drew ?_) | (with_reducible refine Below.setCell ?_ ?_ _) | go_size)) hgrow hown.out.own_le (by (first | omega | (simp; omega) | (simp; done)))
      · have hno : rtOk xs ys = false := by
          have : prG xs ys (k + 1) = false := by show (prG xs ys k && tmOk _ _) = false; rw [HX.out, HY.out, hg.out, h1]; rfl
          rw [rtOk, prG_no this _ (by omega), Bool.and_false]
        have HO := Lib.hid (And.intro hno (show rtR xs ys = [] by simp [rtR, hno]))
        clear hno
        go_wp2_with fail
        go_region_held3 (fun w' => (w'.cell? ⟨b, k * 8, none⟩ = some (.int .i64 x.c0) ∧ w'.cell? ⟨b, k * 8 + 1, none⟩ = some (.int .i64 x.c1) ∧ w'.cell? ⟨b, k * 8 + 2, none⟩ = some (.int .i64 x.c2) ∧ w'.cell? ⟨b, k * 8 + 3, none⟩ = some (.int .i64 x.c3) ∧ w'.cell? ⟨b, k * 8 + 4, none⟩ = some (.int .i64 x.c4) ∧ w'.cell? ⟨b, k * 8 + 5, none⟩ = some (.int .i64 x.c5) ∧ w'.cell? ⟨b, k * 8 + 6, none⟩ = some (.int .i64 x.c6) ∧ w'.cell? ⟨b, k * 8 + 7, none⟩ = some (.int .i64 x.c7)) ∧ (w'.cell? ⟨b', k * 8, none⟩ = some (.int .i64 y.c0) ∧ w'.cell? ⟨b', k * 8 + 1, none⟩ = some (.int .i64 y.c1) ∧ w'.cell? ⟨b', k * 8 + 2, none⟩ = some (.int .i64 y.c2) ∧ w'.cell? ⟨b', k * 8 + 3, none⟩ = some (.int .i64 y.c3) ∧ w'.cell? ⟨b', k * 8 + 4, none⟩ = some (.int .i64 y.c4) ∧ w'.cell? ⟨b', k * 8 + 5, none⟩ = some (.int .i64 y.c5) ∧ w'.cell? ⟨b', k * 8 + 6, none⟩ = some (.int .i64 y.c6) ∧ w'.cell? ⟨b', k * 8 + 7, none⟩ = some (.int .i64 y.c7))) (simp [go_sem, *])
          (first | (go_at_call 44; refine (cycTimes_any _ _ _).mono ?_; rintro e w' ⟨rfl, hb⟩; obtain ⟨os, d, rfl⟩ := more_of_below hb; clear hb))
        all_goals
          go_wp2
          go_returns
          rw [HO.out.1, HO.out.2]
          exact ⟨_, rfl, OwnsP.nil _ _, by repeat' (first | (with_reducible exact Below.refl _ _) | (with_reducible assumption) | (with_reducible refine Below.alloc ?_ ?_ _) | (with_reducible refine below_more ?_ ?_ _ _) | (with_reducible refine below_rd ?_ ?_ _ _) | (with_reducible refine Below.drew ?_) | (with_reducible refine Below.setCell ?_ ?_ _) | go_size)⟩
    · obtain rfl : k = xs.length := by omega
      have hyes : rtOk xs ys = true := by rw [rtOk, hv, hg.out]; rfl
      have HO := Lib.hid (And.intro hyes (show rtR xs ys = prP xs ys xs.length by simp [rtR, hyes]))
      clear hyes
      go_wp2
      go_returns
      rw [HO.out.1, HO.out.2]
      exact ⟨_, rfl, hown.out, hbel⟩
theorem rowTimes_no (a a' : Option Addr) (cap cap' : Nat) (xs ys : List C8) (w : World) (h : HasP w a xs) (h' : HasP w a' ys) (hn : xs.length ≤ 1048576) (hn' : ys.length ≤ 1048576) (hv : twOk xs ys = false) :
    Calls Try.prog 17 #[.slice a xs.length cap, .slice a' ys.length cap'] w (RowPost w (rtOk xs ys) (rtR xs ys)) := by
  have H1 := Lib.hid h
  have H2 := Lib.hid h'
  have e : rtOk xs ys = false := by rw [rtOk, hv]; rfl
  have HO := Lib.hid (And.intro e (show rtR xs ys = [] by simp [rtR, e]))
  clear h h' e
  go_enter Try.func17, Try.ntmps17
  go_wp2_with fail
  (go_at_call 43; refine (rowsValid_any _ _ _ _ _ _ _ H1.out H2.out hn hn').mono ?_; rintro e w' ⟨rfl, hb⟩; obtain ⟨os0, d0, rfl⟩ := more_of_below hb; clear hb)
  go_wp2
  go_returns
  rw [HO.out.1, HO.out.2]
  exact ⟨_, rfl, OwnsP.nil _ _, by repeat' (first | (with_reducible exact Below.refl _ _) | (with_reducible assumption) | (with_reducible refine Below.alloc ?_ ?_ _) | (with_reducible refine below_more ?_ ?_ _ _) | (with_reducible refine below_rd ?_ ?_ _ _) | (with_reducible refine Below.drew ?_) | (with_reducible refine Below.setCell ?_ ?_ _) | go_size)⟩
theorem rowTimes_any (a a' : Option Addr) (cap cap' : Nat) (xs ys : List C8) (w : World) (h : HasP w a xs) (h' : HasP w a' ys) (hn : xs.length ≤ 1048576) (hn' : ys.length ≤ 1048576) :
    Calls Try.prog 17 #[.slice a xs.length cap, .slice a' ys.length cap'] w (RowPost w (rtOk xs ys) (rtR xs ys)) := by
  rcases Bool.eq_false_or_eq_true (twOk xs ys) with hv | hv
  · rcases h with rfl | ⟨b, rfl, hb, hp⟩
    · simp [twOk, rvOk, rwLen] at hv
    · rcases h' with rfl | ⟨b', rfl, hb', hp'⟩
      · simp [twOk, rvOk, rwLen] at hv
      · exact rowTimes_some b b' cap cap' xs ys w hb hb' hp hp' hn hn' hv
  · exact rowTimes_no a a' cap cap' xs ys w h h' hn hn' hv
end Go.Proofs.Ytelgbmebjickeaa
