/- The program's transforms. -/
import Derived.Test.YtelgbmebjickeaaTransA
namespace Go.Proofs.Ytelgbmebjickeaa
open Go.RowKit

/-- The items of a sum of a transform, the sums, and whether they are told. -/
def trF (dir : Int) (xs : List C8) (j : Nat) : Nat → C8 := fun k => (xs.getD k C8.zero).turn (trI dir xs.length j k)
def trP (dir : Int) (xs : List C8) (m : Nat) : List C8 := (List.range m).map fun j => sumP (trF dir xs j) xs.length
def trG (dir : Int) (xs : List C8) : Nat → Bool
  | 0 => true
  | j + 1 => trG dir xs j && sumV (trF dir xs j) xs.length
theorem trP_succ (dir : Int) (xs : List C8) (j : Nat) : trP dir xs (j + 1) = trP dir xs j ++ [sumP (trF dir xs j) xs.length] := by simp [trP, List.range_succ]
theorem trP_len (dir : Int) (xs : List C8) (j : Nat) : (trP dir xs j).length = j := by simp [trP]
theorem trG_no {dir : Int} {xs : List C8} {k : Nat} (h : trG dir xs k = false) : ∀ n, k ≤ n → trG dir xs n = false
  | 0, hn => by obtain rfl : k = 0 := by omega
                exact h
  | n + 1, hn => by
    by_cases e : k = n + 1
    · subst e; exact h
    · show (trG dir xs n && _) = false
      rw [trG_no h n (by omega)]; rfl
def trOk (dir : Int) (xs : List C8) : Bool := rvOk xs && trG dir xs xs.length
def trR (dir : Int) (xs : List C8) : List C8 := if trOk dir xs = true then trP dir xs xs.length else []
def trH (dir : Int) (xs : List C8) : List C8 := if trG dir xs xs.length = true then trP dir xs xs.length else []
theorem rvOk_get {xs : List C8} (h : rvOk xs = true) : (1 ≤ xs.length ∧ xs.length ≤ 24 ∧ 24 % xs.length = 0) ∧ ∀ i, i < xs.length → okC (xs.getD i C8.zero) = true := by
  simp only [rvOk, Bool.and_eq_true] at h
  have h1 := rwLen_le h.1
  exact ⟨⟨h1.1, h1.2, (rwLen_iff.1 h.1).2⟩, okAll_iff.1 h.2⟩
theorem trF_lim {dir : Int} {xs : List C8} (h : ∀ i, i < xs.length → okC (xs.getD i C8.zero) = true) (j k : Nat) (hk : k < xs.length) : C8.lim 1000000000 (trF dir xs j k) :=
  C8.lim_mono (C8.turn_bd (h k hk) _ (trI_lt _ _ _ _)) (by omega)

theorem OwnsP.from {w : World} {B B' : Nat} {v : Value} {ys : List C8} (h : OwnsP w B v ys) (hB : B' ≤ B) : OwnsP w B' v ys :=
  ⟨h.1, h.2.imp id (fun ⟨g, cap, cur, a, b, c⟩ => ⟨g, cap, cur, a, Nat.le_trans hB b, c⟩)⟩
set_option maxRecDepth 100000 in
set_option maxHeartbeats 2000000 in
theorem transform_some (b cap : Nat) (xs : List C8) (dir : Int) (w : World) (hd : dir = 1 ∨ dir = -1) (hb : b < w.heap.size) (hp : ∀ i, i < xs.length → PtAt w b (i * 8) (xs.getD i C8.zero)) (hv : rvOk xs = true) :
    Calls Try.prog 48 #[.slice (some ⟨b, 0, none⟩) xs.length cap, .int .i64 dir] w (RowPost w (trG dir xs xs.length) (trH dir xs)) := by
  have HP := Lib.hid hp
  have HV := Lib.hid (rvOk_get hv)
  have HD := Lib.hid hd
  obtain ⟨hn1, hn2, -⟩ := (rvOk_get hv).1
  have hmk := mkCyc0 xs.length (by omega)
  obtain ⟨ic, hi, hz0, hz1, hz2⟩ := infoC
  have HI := Lib.hid hi
  have HZ0 := Lib.hid hz0
  have HZ1 := Lib.hid hz1
  have HZ2 := Lib.hid hz2
  clear hp hi hz0 hz1 hz2 hd hv
  go_enter Try.func48, Try.ntmps48
  go_wp2_with fail
  go_loopw [7, 16] (fun s7 s wr => ∃ (j : Nat) (v : Value), j ≤ xs.length ∧ s = .int .i64 j ∧ v = s7 ∧ Hid (trG dir xs j = true) ∧ Hid (OwnsP wr (w.heap.size + 3) v (trP dir xs j)) ∧ Below (w.heap.size + 3) (((w.alloc (.cells #[.slice (some ⟨b, 0, none⟩) xs.length cap] 24)).alloc (.cells #[.int .i64 dir] 3)).alloc (.cells #[.int .i64 xs.length] 3)) wr) (fun _ s _ => xs.length - (intOf s).toNat)
  case atStart => exact ⟨0, _, by omega, rfl, rfl, rfl, (by have := OwnsP.made (((w.alloc (.cells #[.slice (some ⟨b, 0, none⟩) xs.length cap] 24)).alloc (.cells #[.int .i64 dir] 3)).alloc (.cells #[.int .i64 xs.length] 3)) (w.heap.size + 3) xs.length (by simp) (by omega); simp only [World.size_alloc] at this; exact this), by repeat' (first | (with_reducible exact Below.refl _ _) | (with_reducible assumption) | (with_reducible refine Below.alloc ?_ ?_ _) | (with_reducible refine below_more ?_ ?_ _ _) | (with_reducible refine below_rd ?_ ?_ _ _) | (with_reducible refine Below.drew ?_) | (with_reducible refine Below.setCell ?_ ?_ _) | go_size)⟩
  case round =>
    obtain ⟨j, v, hj, rfl, rfl, hg, hown, hbel⟩ := hrel
    have hz := hbel.size
    simp only [World.size_alloc] at hz
    have hz0 : w.heap.size < wr.heap.size := by omega
    have hz1 : w.heap.size + 1 < wr.heap.size := by omega
    have hz2 : w.heap.size + 1 + 1 < wr.heap.size := by omega
    have lb : b < wr.heap.size := by omega
    have hbw : Below w.heap.size w wr := ((((Below.refl _ w).alloc (Nat.le_refl _) _).alloc (by simp) _).alloc (by simp; omega) _).trans (hbel.mono (by omega))
    have c1 : wr.cell? ⟨w.heap.size, 0, none⟩ = some (.slice (some ⟨b, 0, none⟩) xs.length cap) := by rw [hbel.cell (p := ⟨w.heap.size, 0, none⟩) (by show w.heap.size < _; omega)]; simp [go_sem]
    have c2 : wr.cell? ⟨w.heap.size + 1, 0, none⟩ = some (.int .i64 dir) := by rw [hbel.cell (p := ⟨w.heap.size + 1, 0, none⟩) (by show w.heap.size + 1 < _; omega)]; simp [go_sem]
    have c3 : wr.cell? ⟨w.heap.size + 1 + 1, 0, none⟩ = some (.int .i64 xs.length) := by rw [hbel.cell (p := ⟨w.heap.size + 1 + 1, 0, none⟩) (by show w.heap.size + 1 + 1 < _; omega)]; simp [go_sem]
    by_cases hlt : j < xs.length
    · go_wp2_with fail
      refine (sumOfT_any _ _ _ _ (trF dir xs j) xs.length hn2 (fun _ w' => Below (wr.heap.size + 1) (wr.alloc (.cells #[.int .i64 j] 3)) w') _ ?_ ?_ ?_ (fun k hk => trF_lim HV.out.2 j k hk)).mono ?_
      · exact Below.refl _ _
      · intro k w1 w2 h1 h2
        simp only [World.size_alloc] at h2
        exact h1.trans h2
      · intro k hk w1 hw1 hs1
        refine (trans1_any _ _ _ _ b cap xs.length j k dir (xs.getD k C8.zero) w1 HD.out HV.out.1.2.2 hn1 hn2 hlt hk (HV.out.2 k hk) ?_ ?_ ?_ ?_ ?_ ?_ ?_ ?_ ?_ ?_).mono fun e w2 h => ⟨h.1, hw1.trans (h.2.mono (by simp at hs1; omega)), Up.of_below h.2⟩
        all_goals simp only [World.size_alloc] at hs1
        · omega
        · omega
        · omega
        · omega
        · omega
        · rw [hw1.cell (p := ⟨w.heap.size, 0, none⟩) (by show w.heap.size < _; omega), World.cell?_alloc_lt _ _ _ (by show w.heap.size < _; omega)]; exact c1
        · rw [hw1.cell (p := ⟨w.heap.size + 1, 0, none⟩) (by show w.heap.size + 1 < _; omega), World.cell?_alloc_lt _ _ _ (by show w.heap.size + 1 < _; omega)]; exact c2
        · rw [hw1.cell (p := ⟨wr.heap.size, 0, none⟩) (by show wr.heap.size < _; omega)]; simp [go_sem]
        · rw [hw1.cell (p := ⟨w.heap.size + 1 + 1, 0, none⟩) (by show w.heap.size + 1 + 1 < _; omega), World.cell?_alloc_lt _ _ _ (by show w.heap.size + 1 + 1 < _; omega)]; exact c3
        · refine PtAt.below ?_ hw1 (by omega)
          exact World.rangeAt_alloc (PtAt.below (World.rangeAt_alloc (World.rangeAt_alloc (World.rangeAt_alloc (HP.out k hk) _) _) _) hbel (by omega)) _
      rintro e w' ⟨rfl, ⟨m, hJm, -⟩, -⟩
      obtain ⟨os, d, rfl⟩ := more_of_below (W := wr.alloc (.cells #[.int .i64 j] 3)) (by simpa using hJm)
      clear hJm
      rcases Bool.eq_false_or_eq_true (sumV (trF dir xs j) xs.length) with hs | hs
      · have e1 : sumR (trF dir xs j) xs.length = sumP (trF dir xs j) xs.length := by rw [sumR, if_pos hs]
        have HG2 := Lib.hid (show trG dir xs (j + 1) = true by show (trG dir xs j && _) = true; rw [hg.out, hs]; rfl)
        have HP2 := Lib.hid (trP_succ dir xs j)
        go_wp2_with (at_builtin; (refine wpList_append_lies _ rfl _ _ _ rfl (w.heap.size + 3) 42 ic (cv C8.zero) 8 64 Try.underlying24 HI.out HZ0.out HZ1.out HZ2.out rfl (by omega) v (trP dir xs j).length (rowsV (trP dir xs j)).toList (by rfl) ((((hown.out.alloc _).more _ _).alloc _).alloc _) ⟨wr.heap.size + 1 + os.size + 1, 0, none⟩ 1 1 (row (sumP (trF dir xs j) xs.length)).toList (by rfl) (by rfl) (World.news_of_block (heap_at2 _ _ (by (first | omega | (simp; omega) | (simp; done))))) (rowL_ones _) (by omega) (by rw [trP_len]; unfold maxLen; omega) (by rw [trP_len]; omega) (by (first | omega | (simp; omega) | (simp; done))) _ rfl ?_; intro g cap2 w1 hown2 hgrow hat hlt2))
        refine ⟨⟨j + 1, _, by omega, by go_num, rfl, HG2, ?_, ?_⟩, by simp [intOf]; omega⟩
        · show OwnsP _ _ _ _; rw [HP2.out]; exact OwnsP.snoc hown2
        · exact below_grown (by repeat' (first | (with_reducible exact Below.refl _ _) | (with_reducible assumption) | (with_reducible refine Below.alloc ?_ ?_ _) | (with_reducible refine below_more ?_ ?_ _ _) | (with_reducible refine below_rd ?_ ?_ _ _) | (with_reducible refine Below.drew ?_) | (with_reducible refine Below.setCell ?_ ?_ _) | go_size)) hgrow hown.out.own_le (by (first | omega | (simp; omega) | (simp; done)))
      · have hno : trG dir xs xs.length = false := trG_no (k := j + 1) (by show (trG dir xs j && _) = false; rw [hs, Bool.and_false]) _ (by omega)
        have HO := Lib.hid (And.intro hno (show trH dir xs = [] by rw [trH, hno]; rfl))
        clear hno
        go_wp2_with fail
        go_returns
        rw [HO.out.1, HO.out.2]
        exact ⟨_, rfl, OwnsP.nil _ _, by repeat' (first | (with_reducible exact Below.refl _ _) | (with_reducible assumption) | (with_reducible refine Below.alloc ?_ ?_ _) | (with_reducible refine below_more ?_ ?_ _ _) | (with_reducible refine below_rd ?_ ?_ _ _) | (with_reducible refine Below.drew ?_) | (with_reducible refine Below.setCell ?_ ?_ _) | go_size)⟩
    · obtain rfl : j = xs.length := by omega
      have HO := Lib.hid (And.intro hg.out (show trH dir xs = trP dir xs xs.length by rw [trH, hg.out]; rfl))
      go_wp2
      go_returns
      rw [HO.out.1, HO.out.2]
      exact ⟨_, rfl, OwnsP.from hown.out (by omega), by repeat' (first | (with_reducible exact Below.refl _ _) | (with_reducible assumption) | (with_reducible refine Below.alloc ?_ ?_ _) | (with_reducible refine below_more ?_ ?_ _ _) | (with_reducible refine below_rd ?_ ?_ _ _) | (with_reducible refine Below.drew ?_) | (with_reducible refine Below.setCell ?_ ?_ _) | go_size)⟩
set_option maxRecDepth 100000 in
theorem transformOf_any (a : Option Addr) (cap : Nat) (xs : List C8) (w : World) (h : HasP w a xs) (hn : xs.length ≤ 1048576) :
    Calls Try.prog 24 #[.slice a xs.length cap] w (RowPost w (trOk (-1) xs) (trR (-1) xs)) := by
  have H1 := Lib.hid h
  rcases Bool.eq_false_or_eq_true (rvOk xs) with hv | hv
  · rcases h with rfl | ⟨b, rfl, hb, hp⟩
    · simp [rvOk, rwLen] at hv
    · have HV := Lib.hid hv
      have HP := Lib.hid hp
      have HO := Lib.hid (show trOk (-1) xs = trG (-1) xs xs.length ∧ trR (-1) xs = trH (-1) xs from by
        have e : trOk (-1) xs = trG (-1) xs xs.length := by rw [trOk, hv, Bool.true_and]
        exact ⟨e, by rw [trR, e]; rfl⟩)
      clear hp
      go_enter Try.func24, Try.ntmps24
      go_wp2_with fail
      (go_at_call 47; refine (rowValid_any _ _ _ _ H1.out hn).mono ?_; rintro e w' ⟨rfl, hb⟩; obtain ⟨os0, d0, rfl⟩ := more_of_below hb; clear hb)
      go_wp2_with fail
      refine (transform_some b cap xs (-1) _ (by decide) (by simp; omega) (fun i hi => PtAt.more (HP.out i hi) hb _ _) HV.out).mono ?_
      rintro e w' ⟨v, rfl, hown, hbel⟩
      go_wp2
      go_returns
      rw [HO.out.1, HO.out.2]
      exact ⟨_, rfl, hown.from (by simp), (below_more (Below.refl _ _) (Nat.le_refl _) _ _).trans (hbel.mono (by simp))⟩
  · have e : trOk (-1) xs = false := by rw [trOk, hv]; rfl
    have HO := Lib.hid (And.intro e (show trR (-1) xs = [] by simp [trR, e]))
    clear h e
    go_enter Try.func24, Try.ntmps24
    go_wp2_with fail
    (go_at_call 47; refine (rowValid_any _ _ _ _ H1.out hn).mono ?_; rintro e w' ⟨rfl, hb⟩; obtain ⟨os0, d0, rfl⟩ := more_of_below hb; clear hb)
    go_wp2
    go_returns
    rw [HO.out.1, HO.out.2]
    exact ⟨_, rfl, OwnsP.nil _ _, by repeat' (first | (with_reducible exact Below.refl _ _) | (with_reducible assumption) | (with_reducible refine Below.alloc ?_ ?_ _) | (with_reducible refine below_more ?_ ?_ _ _) | (with_reducible refine below_rd ?_ ?_ _ _) | (with_reducible refine Below.drew ?_) | (with_reducible refine Below.setCell ?_ ?_ _) | go_size)⟩
set_option maxRecDepth 100000 in
theorem transformBack_any (a : Option Addr) (cap : Nat) (xs : List C8) (w : World) (h : HasP w a xs) (hn : xs.length ≤ 1048576) :
    Calls Try.prog 22 #[.slice a xs.length cap] w (RowPost w (trOk (1) xs) (trR (1) xs)) := by
  have H1 := Lib.hid h
  rcases Bool.eq_false_or_eq_true (rvOk xs) with hv | hv
  · rcases h with rfl | ⟨b, rfl, hb, hp⟩
    · simp [rvOk, rwLen] at hv
    · have HV := Lib.hid hv
      have HP := Lib.hid hp
      have HO := Lib.hid (show trOk (1) xs = trG (1) xs xs.length ∧ trR (1) xs = trH (1) xs from by
        have e : trOk (1) xs = trG (1) xs xs.length := by rw [trOk, hv, Bool.true_and]
        exact ⟨e, by rw [trR, e]; rfl⟩)
      clear hp
      go_enter Try.func22, Try.ntmps22
      go_wp2_with fail
      (go_at_call 47; refine (rowValid_any _ _ _ _ H1.out hn).mono ?_; rintro e w' ⟨rfl, hb⟩; obtain ⟨os0, d0, rfl⟩ := more_of_below hb; clear hb)
      go_wp2_with fail
      refine (transform_some b cap xs (1) _ (by decide) (by simp; omega) (fun i hi => PtAt.more (HP.out i hi) hb _ _) HV.out).mono ?_
      rintro e w' ⟨v, rfl, hown, hbel⟩
      go_wp2
      go_returns
      rw [HO.out.1, HO.out.2]
      exact ⟨_, rfl, hown.from (by simp), (below_more (Below.refl _ _) (Nat.le_refl _) _ _).trans (hbel.mono (by simp))⟩
  · have e : trOk (1) xs = false := by rw [trOk, hv]; rfl
    have HO := Lib.hid (And.intro e (show trR (1) xs = [] by simp [trR, e]))
    clear h e
    go_enter Try.func22, Try.ntmps22
    go_wp2_with fail
    (go_at_call 47; refine (rowValid_any _ _ _ _ H1.out hn).mono ?_; rintro e w' ⟨rfl, hb⟩; obtain ⟨os0, d0, rfl⟩ := more_of_below hb; clear hb)
    go_wp2
    go_returns
    rw [HO.out.1, HO.out.2]
    exact ⟨_, rfl, OwnsP.nil _ _, by repeat' (first | (with_reducible exact Below.refl _ _) | (with_reducible assumption) | (with_reducible refine Below.alloc ?_ ?_ _) | (with_reducible refine below_more ?_ ?_ _ _) | (with_reducible refine below_rd ?_ ?_ _ _) | (with_reducible refine Below.drew ?_) | (with_reducible refine Below.setCell ?_ ?_ _) | go_size)⟩

end Go.Proofs.Ytelgbmebjickeaa
