/- The program's circular products. -/
import Derived.Test.YtelgbmebjickeaaCircA
namespace Go.Proofs.Ytelgbmebjickeaa
open Go.RowKit

/-- What the items of a sum keep: the variable of the rounds so far, and all else that was there. -/
def CircJ (W : World) (g : Nat) (u : Nat → Bool) (m : Nat) (w' : World) : Prop := W.grownBy w' (some g) ∧ w'.heap[g]? = some (.cells #[.bool (u m)] 4 (0, 0))
theorem CircJ.below {W : World} {g : Nat} {u : Nat → Bool} {m : Nat} {w1 w2 : World} (h : CircJ W g u m w1) (hg : g < W.heap.size) (hb : Below W.heap.size w1 w2) : CircJ W g u m w2 :=
  ⟨⟨hb.os.trans h.1.os, hb.tape.trans h.1.tape, hb.output.trans h.1.output, by have := h.1.size; have := hb.size; omega, fun k hk hne => (hb.block k hk).trans (h.1.block k hk hne)⟩, (hb.block g hg).trans h.2⟩
theorem grown_cell {W w' : World} {g k i : Nat} {v : Value} (h : W.grownBy w' (some g)) (hc : W.cell? ⟨k, i, none⟩ = some v) (hne : k ≠ g) : w'.cell? ⟨k, i, none⟩ = some v :=
  h.cell hc (fun e => hne (Option.some.inj e))

theorem CircJ.next {W : World} {g : Nat} {u : Nat → Bool} {m : Nat} {w1 w2 : World} (h : CircJ W g u m w1) (hg : w1.grownBy w2 (some g)) (hh : w2.heap[g]? = some (.cells #[.bool (u (m + 1))] 4 (0, 0))) : CircJ W g u (m + 1) w2 :=
  ⟨⟨hg.os.trans h.1.os, hg.tape.trans h.1.tape, hg.output.trans h.1.output, Nat.le_trans h.1.size hg.size, fun k hk hne => (hg.block k (Nat.lt_of_lt_of_le hk h.1.size) hne).trans (h.1.block k hk hne)⟩, hh⟩
set_option maxRecDepth 100000 in
set_option maxHeartbeats 4000000 in
theorem rowCircular_some (b b' cap cap' : Nat) (xs ys : List C8) (w : World) (hb : b < w.heap.size) (hb' : b' < w.heap.size) (hp : ∀ i, i < xs.length → PtAt w b (i * 8) (xs.getD i C8.zero)) (hp' : ∀ i, i < ys.length → PtAt w b' (i * 8) (ys.getD i C8.zero)) (hv : twOk xs ys = true) :
    Calls Try.prog 32 #[.slice (some ⟨b, 0, none⟩) xs.length cap, .slice (some ⟨b', 0, none⟩) ys.length cap'] w (RowPost w (rcG xs ys xs.length) (rcH xs ys)) := by
  have hv' := hv
  simp only [twOk, Bool.and_eq_true, decide_eq_true_eq] at hv'
  obtain ⟨⟨hv1, -⟩, hlen⟩ := hv'
  obtain ⟨hn1, hn2, -⟩ := (rvOk_get hv1).1
  have H1 := Lib.hid (show HasP w (some ⟨b, 0, none⟩) xs from Or.inr ⟨b, rfl, hb, hp⟩)
  have H2 := Lib.hid (show HasP w (some ⟨b', 0, none⟩) ys from Or.inr ⟨b', rfl, hb', hp'⟩)
  have HP := Lib.hid hp
  have HP' := Lib.hid hp'
  have HL := Lib.hid hlen
  have HV := Lib.hid hv
  have hn' : ys.length ≤ 24 := by omega
  have hmk := mkCyc0 xs.length (by omega)
  obtain ⟨ic, hi, hz0, hz1, hz2⟩ := infoC
  have HI := Lib.hid hi
  have HZ0 := Lib.hid hz0
  have HZ1 := Lib.hid hz1
  have HZ2 := Lib.hid hz2
  clear hp hp' hi hz0 hz1 hz2 hv hv1 hlen
  go_enter Try.func32, Try.ntmps32
  go_wp2_with fail
  refine (rowsValid_any _ _ _ _ xs ys _ ((H1.out.alloc _).alloc _) ((H2.out.alloc _).alloc _) (by omega) (by omega)).mono ?_
  rw [HV.out]
  rintro e w' ⟨rfl, hb0⟩; obtain ⟨os0, d0, rfl⟩ := more_of_below hb0; clear hb0
  go_wp2_with fail
  go_loopw [7, 21] (fun s7 s wr => ∃ (k : Nat) (v : Value), k ≤ xs.length ∧ s = .int .i64 k ∧ v = s7 ∧ Hid (rcG xs ys k = true) ∧ Hid (OwnsP wr (w.heap.size + 1 + 1 + os0.size + 1) v (rcP xs ys k)) ∧ Below (w.heap.size + 1 + 1 + os0.size + 1) ((more ((w.alloc (.cells #[.slice (some ⟨b, 0, none⟩) xs.length cap] 24)).alloc (.cells #[.slice (some ⟨b', 0, none⟩) ys.length cap'] 24)) os0 d0).alloc (.cells #[.int .i64 xs.length] 3)) wr) (fun _ s _ => xs.length - (intOf s).toNat)
  case atStart => exact ⟨0, _, by omega, rfl, rfl, rfl, (by have := OwnsP.made ((more ((w.alloc (.cells #[.slice (some ⟨b, 0, none⟩) xs.length cap] 24)).alloc (.cells #[.slice (some ⟨b', 0, none⟩) ys.length cap'] 24)) os0 d0).alloc (.cells #[.int .i64 xs.length] 3)) (w.heap.size + 1 + 1 + os0.size + 1) xs.length (by simp) (by omega); simp only [World.size_alloc, size_more] at this; exact this), by repeat' (first | (with_reducible exact Below.refl _ _) | (with_reducible assumption) | (with_reducible refine Below.alloc ?_ ?_ _) | (with_reducible refine below_more ?_ ?_ _ _) | (with_reducible refine below_rd ?_ ?_ _ _) | (with_reducible refine Below.drew ?_) | (with_reducible refine Below.setCell ?_ ?_ _) | go_size)⟩
  case round =>
    obtain ⟨k, v, hk, rfl, rfl, hg, hown, hbel⟩ := hrel
    have hz := hbel.size
    simp only [World.size_alloc, size_more] at hz
    have z0 : w.heap.size < wr.heap.size := by omega
    have z1 : w.heap.size + 1 < wr.heap.size := by omega
    have z2 : w.heap.size + 1 + 1 + os0.size < wr.heap.size := by omega
    have hbw : Below w.heap.size w wr := (by repeat' (first | (with_reducible exact Below.refl _ _) | (with_reducible assumption) | (with_reducible refine Below.alloc ?_ ?_ _) | (with_reducible refine below_more ?_ ?_ _ _) | (with_reducible refine below_rd ?_ ?_ _ _) | (with_reducible refine Below.drew ?_) | (with_reducible refine Below.setCell ?_ ?_ _) | go_size) : Below w.heap.size w ((more ((w.alloc (.cells #[.slice (some ⟨b, 0, none⟩) xs.length cap] 24)).alloc (.cells #[.slice (some ⟨b', 0, none⟩) ys.length cap'] 24)) os0 d0).alloc (.cells #[.int .i64 xs.length] 3))).trans (hbel.mono (by omega))
    have c1 : wr.cell? ⟨w.heap.size, 0, none⟩ = some (.slice (some ⟨b, 0, none⟩) xs.length cap) := by rw [hbel.cell (p := ⟨w.heap.size, 0, none⟩) (by show w.heap.size < _; omega)]; simp [go_sem]
    have c2 : wr.cell? ⟨w.heap.size + 1, 0, none⟩ = some (.slice (some ⟨b', 0, none⟩) ys.length cap') := by rw [hbel.cell (p := ⟨w.heap.size + 1, 0, none⟩) (by show w.heap.size + 1 < _; omega)]; simp [go_sem]
    have c3 : wr.cell? ⟨w.heap.size + 1 + 1 + os0.size, 0, none⟩ = some (.int .i64 xs.length) := by rw [hbel.cell (p := ⟨w.heap.size + 1 + 1 + os0.size, 0, none⟩) (by show w.heap.size + 1 + 1 + os0.size < _; omega)]; simp [go_sem]
    by_cases hlt : k < xs.length
    · go_wp2_with fail
      refine (sumOfC_any _ _ _ _ _ (rcF xs ys k) xs.length hn2 (CircJ ((wr.alloc (.cells #[.int .i64 k] 3)).alloc (.cells #[.bool true] 4)) (wr.heap.size + 1) (rcU xs ys k)) _ ?_ ?_ ?_ (fun i _ => rcF_lim xs ys k i)).mono ?_
      · exact ⟨⟨rfl, rfl, rfl, Nat.le_refl _, fun _ _ _ => rfl⟩, heap_at2 _ _ (by simp)⟩
      · intro m w1 w2 h1 h2
        exact h1.below (by simp) h2
      · intro i hi w1 hw1 hs1
        simp only [World.size_alloc] at hs1
        have cell : ∀ (B : Nat) (u : Value), B < wr.heap.size → wr.cell? ⟨B, 0, none⟩ = some u → w1.cell? ⟨B, 0, none⟩ = some u := fun B u hB hc =>
          grown_cell hw1.1 (by rw [World.cell?_alloc_lt _ _ _ (by show B < _; simp; omega), World.cell?_alloc_lt _ _ _ (by show B < _; omega)]; exact hc) (by omega)
        refine (circ1_any (w.heap.size) (w.heap.size + 1) wr.heap.size (w.heap.size + 1 + 1 + os0.size) (wr.heap.size + 1) b b' cap cap' xs.length k i (xs.getD i C8.zero) (ys.getD (rcI xs.length k i) C8.zero) (rcU xs ys k i) w1 hn2 hi hlt ?_ ?_ ?_ ?_ ?_ ?_ ?_ ?_ ?_ ?_ ?_ ?_ ?_ ?_).mono fun e w2 h => ⟨h.1, hw1.next h.2.1 h.2.2, ⟨h.2.1.size, fun j hj hj2 => h.2.1.block j hj2 (fun e => by cases e; simp at hj; omega)⟩⟩
        · omega
        · omega
        · omega
        · omega
        · omega
        · omega
        · omega
        · exact cell _ _ z0 c1
        · rw [HL.out]; exact cell _ _ z1 c2
        · exact grown_cell hw1.1 (by rw [World.cell?_alloc_lt _ _ _ (by show wr.heap.size < _; simp)]; simp [go_sem]) (by omega)
        · exact cell _ _ z2 c3
        · exact hw1.2
        · intro j u hu
          have := PtAt.below (HP.out i hi) hbw hb j u hu
          refine grown_cell hw1.1 ?_ (by omega)
          rw [World.cell?_alloc_lt _ _ _ (by show b < _; simp; omega), World.cell?_alloc_lt _ _ _ (by show b < _; omega)]; exact this
        · intro j u hu
          have := PtAt.below (HP'.out (rcI xs.length k i) (by rw [← HL.out]; exact rcI_lt hlt)) hbw hb' j u hu
          refine grown_cell hw1.1 ?_ (by omega)
          rw [World.cell?_alloc_lt _ _ _ (by show b' < _; simp; omega), World.cell?_alloc_lt _ _ _ (by show b' < _; omega)]; exact this
      rintro e w2 ⟨rfl, ⟨m, hJm, hm⟩, -⟩
      have hbel2 : Below (w.heap.size + 1 + 1 + os0.size + 1) ((more ((w.alloc (.cells #[.slice (some ⟨b, 0, none⟩) xs.length cap] 24)).alloc (.cells #[.slice (some ⟨b', 0, none⟩) ys.length cap'] 24)) os0 d0).alloc (.cells #[.int .i64 xs.length] 3)) w2 := Below.grown ((hbel.alloc (by omega) _).alloc (by simp; omega) _) hJm.1 (by simp; omega) (fun j e => by cases e; omega)
      have hown2 : OwnsP w2 (w.heap.size + 1 + 1 + os0.size + 1) v (rcP xs ys k) := World.ownsRow.kept ((hown.out.alloc _).alloc _) hJm.1 (Or.inr (fun e => by have := (World.ownsRow.lt hown.out _ e).2; omega))
      have hbw2 : Below w.heap.size w w2 := (by repeat' (first | (with_reducible exact Below.refl _ _) | (with_reducible assumption) | (with_reducible refine Below.alloc ?_ ?_ _) | (with_reducible refine below_more ?_ ?_ _ _) | (with_reducible refine below_rd ?_ ?_ _ _) | (with_reducible refine Below.drew ?_) | (with_reducible refine Below.setCell ?_ ?_ _) | go_size) : Below w.heap.size w ((more ((w.alloc (.cells #[.slice (some ⟨b, 0, none⟩) xs.length cap] 24)).alloc (.cells #[.slice (some ⟨b', 0, none⟩) ys.length cap'] 24)) os0 d0).alloc (.cells #[.int .i64 xs.length] 3))).trans (hbel2.mono (by omega))
      have hz2 := hJm.1.size
      simp only [World.size_alloc] at hz2
      have hz3 : wr.heap.size + 1 < w2.heap.size := by omega
      have HO2 := Lib.hid hown2
      rcases Bool.eq_false_or_eq_true (sumV (rcF xs ys k) xs.length) with hs | hs
      · obtain rfl := hm hs
        have cf := cell_of_one hJm.2
        have e1 : sumR (rcF xs ys k) xs.length = sumP (rcF xs ys k) xs.length := by rw [sumR, if_pos hs]
        rcases Bool.eq_false_or_eq_true (rcU xs ys k xs.length) with hu | hu
        · have HG2 := Lib.hid (show rcG xs ys (k + 1) = true by show (rcG xs ys k && _) = true; rw [hg.out, hs, hu]; rfl)
          have HP2 := Lib.hid (rcP_succ xs ys k)
          clear hown2 hJm c1 c2 c3
          go_wp2_with (at_builtin; (refine wpList_append_lies _ rfl _ _ _ rfl (w.heap.size + 1 + 1 + os0.size + 1) 42 ic (cv C8.zero) 8 64 Try.underlying24 HI.out HZ0.out HZ1.out HZ2.out rfl (by omega) v (rcP xs ys k).length (rowsV (rcP xs ys k)).toList (by rfl) ((HO2.out.alloc _).alloc _) ⟨w2.heap.size + 1, 0, none⟩ 1 1 (row (sumP (rcF xs ys k) xs.length)).toList (by rfl) (by rfl) (World.news_of_block (heap_at2 _ _ (by (first | omega | (simp; omega) | (simp; done))))) (rowL_ones _) (by omega) (by rw [rcP_len]; unfold maxLen; omega) (by rw [rcP_len]; omega) (by (first | omega | (simp; omega) | (simp; done))) _ rfl ?_; intro g cap2 w3 hown3 hgrow hat hlt3))
          refine ⟨⟨k + 1, _, by omega, by go_num, rfl, HG2, ?_, ?_⟩, by simp [intOf]; omega⟩
          · show OwnsP _ _ _ _; rw [HP2.out]; exact OwnsP.snoc hown3
          · exact below_grown (by repeat' (first | (with_reducible exact Below.refl _ _) | (with_reducible assumption) | (with_reducible refine Below.alloc ?_ ?_ _) | (with_reducible refine below_more ?_ ?_ _ _) | (with_reducible refine below_rd ?_ ?_ _ _) | (with_reducible refine Below.drew ?_) | (with_reducible refine Below.setCell ?_ ?_ _) | go_size)) hgrow HO2.out.own_le (by (first | omega | (simp; omega) | (simp; done)))
        · have hno : rcG xs ys xs.length = false := rcG_no (k := k + 1) (by show (rcG xs ys k && _) = false; rw [hu, Bool.and_false, Bool.and_false]) _ (by omega)
          have HO := Lib.hid (And.intro hno (show rcH xs ys = [] by rw [rcH, hno]; rfl))
          clear hno hown2 hJm c1 c2 c3
          go_wp2_with fail
          go_returns
          rw [HO.out.1, HO.out.2]
          exact ⟨_, rfl, OwnsP.nil _ _, by repeat' (first | (with_reducible exact Below.refl _ _) | (with_reducible assumption) | (with_reducible refine Below.alloc ?_ ?_ _) | (with_reducible refine below_more ?_ ?_ _ _) | (with_reducible refine below_rd ?_ ?_ _ _) | (with_reducible refine Below.drew ?_) | (with_reducible refine Below.setCell ?_ ?_ _) | go_size)⟩
      · have hno : rcG xs ys xs.length = false := rcG_no (k := k + 1) (by show (rcG xs ys k && _) = false; rw [hs, Bool.false_and, Bool.and_false]) _ (by omega)
        have HO := Lib.hid (And.intro hno (show rcH xs ys = [] by rw [rcH, hno]; rfl))
        clear hno hown2 hJm c1 c2 c3 hm
        go_wp2_with fail
        go_returns
        rw [HO.out.1, HO.out.2]
        exact ⟨_, rfl, OwnsP.nil _ _, by repeat' (first | (with_reducible exact Below.refl _ _) | (with_reducible assumption) | (with_reducible refine Below.alloc ?_ ?_ _) | (with_reducible refine below_more ?_ ?_ _ _) | (with_reducible refine below_rd ?_ ?_ _ _) | (with_reducible refine Below.drew ?_) | (with_reducible refine Below.setCell ?_ ?_ _) | go_size)⟩
    · obtain rfl : k = xs.length := by omega
      have HO := Lib.hid (And.intro hg.out (show rcH xs ys = rcP xs ys xs.length by rw [rcH, hg.out]; rfl))
      go_wp2
      go_returns
      rw [HO.out.1, HO.out.2]
      exact ⟨_, rfl, hown.out.from (by omega), hbw⟩
theorem rowCircular_any (a a' : Option Addr) (cap cap' : Nat) (xs ys : List C8) (w : World) (h : HasP w a xs) (h' : HasP w a' ys) (hn : xs.length ≤ 1048576) (hn' : ys.length ≤ 1048576) :
    Calls Try.prog 32 #[.slice a xs.length cap, .slice a' ys.length cap'] w (RowPost w (rcOk xs ys) (rcR xs ys)) := by
  rcases Bool.eq_false_or_eq_true (twOk xs ys) with hv | hv
  · have e : rcOk xs ys = rcG xs ys xs.length := by rw [rcOk, hv, Bool.true_and]
    have e2 : rcR xs ys = rcH xs ys := by rw [rcR, e]; rfl
    rw [e, e2]
    rcases h with rfl | ⟨b, rfl, hb, hp⟩
    · simp [twOk, rvOk, rwLen] at hv
    · rcases h' with rfl | ⟨b', rfl, hb', hp'⟩
      · simp [twOk, rvOk, rwLen] at hv
      · exact rowCircular_some b b' cap cap' xs ys w hb hb' hp hp' hv
  · have H1 := Lib.hid h
    have H2 := Lib.hid h'
    have e : rcOk xs ys = false := by rw [rcOk, hv]; rfl
    have HO := Lib.hid (And.intro e (show rcR xs ys = [] by simp [rcR, e]))
    have HV := Lib.hid hv
    clear h h' e hv
    go_enter Try.func32, Try.ntmps32
    go_wp2_with fail
    refine (rowsValid_any _ _ _ _ xs ys _ ((H1.out.alloc _).alloc _) ((H2.out.alloc _).alloc _) hn hn').mono ?_
    rw [HV.out]
    rintro e w' ⟨rfl, hb0⟩; obtain ⟨os0, d0, rfl⟩ := more_of_below hb0; clear hb0
    go_wp2
    go_returns
    rw [HO.out.1, HO.out.2]
    exact ⟨_, rfl, OwnsP.nil _ _, by repeat' (first | (with_reducible exact Below.refl _ _) | (with_reducible assumption) | (with_reducible refine Below.alloc ?_ ?_ _) | (with_reducible refine below_more ?_ ?_ _ _) | (with_reducible refine below_rd ?_ ?_ _ _) | (with_reducible refine Below.drew ?_) | (with_reducible refine Below.setCell ?_ ?_ _) | go_size)⟩
end Go.Proofs.Ytelgbmebjickeaa
