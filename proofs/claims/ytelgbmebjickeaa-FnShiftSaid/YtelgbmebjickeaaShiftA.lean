/- Shifted rows, of the program and of the reference. -/
import Derived.Test.YtelgbmebjickeaaTransP
import Derived.Test.YtelgbmebjickeaaRowF
namespace Go.Proofs.Ytelgbmebjickeaa
open Go.RowKit

def shP (xs : List C8) (m k : Nat) : List C8 := (List.range k).map fun i => xs.getD ((i + m) % xs.length) C8.zero
theorem shP_succ (xs : List C8) (m k : Nat) : shP xs m (k + 1) = shP xs m k ++ [xs.getD ((k + m) % xs.length) C8.zero] := by simp [shP, List.range_succ]
theorem shP_len (xs : List C8) (m k : Nat) : (shP xs m k).length = k := by simp [shP]
def shOk (xs : List C8) (m : Int) : Bool := rvOk xs && inB m 0 23
def shR (xs : List C8) (m : Int) : List C8 := if shOk xs m = true then shP xs m.toNat xs.length else []
theorem shR_len (xs : List C8) (m : Int) : (shR xs m).length ≤ xs.length := by
  unfold shR; split
  · rw [shP_len]; exact Nat.le_refl _
  · simp
set_option maxRecDepth 100000 in
set_option maxHeartbeats 1000000 in
theorem rowShift_some (b cap : Nat) (xs : List C8) (m : Nat) (hm : m ≤ 23) (w : World) (hb : b < w.heap.size) (hp : ∀ i, i < xs.length → PtAt w b (i * 8) (xs.getD i C8.zero)) (hv : rvOk xs = true) :
    Calls Try.prog 28 #[.slice (some ⟨b, 0, none⟩) xs.length cap, .int .i64 m] w (RowPost w true (shP xs m xs.length)) := by
  have H1 := Lib.hid (show HasP w (some ⟨b, 0, none⟩) xs from Or.inr ⟨b, rfl, hb, hp⟩)
  have HP := Lib.hid hp
  obtain ⟨⟨hn1, hn2, -⟩, -⟩ := rvOk_get hv
  have HRV := Lib.hid hv
  have hin : inB m 0 23 = true := inB_iff.2 ⟨by omega, by omega⟩
  have hmk := mkCyc0 xs.length (by omega)
  obtain ⟨ic, hi, hz0, hz1, hz2⟩ := infoC
  have HI := Lib.hid hi
  have HZ0 := Lib.hid hz0
  have HZ1 := Lib.hid hz1
  have HZ2 := Lib.hid hz2
  clear hp hi hz0 hz1 hz2 hv
  go_enter Try.func28, Try.ntmps28
  go_wp2_with fail
  refine (rowValid_any _ _ xs _ (H1.out) (by omega)).mono ?_
  rw [HRV.out]
  rintro e w' ⟨rfl, hb0⟩; obtain ⟨os0, d0, rfl⟩ := more_of_below hb0; clear hb0
  go_wp2_with fail
  refine (within_any _ _ _ _).mono ?_
  rw [hin]
  rintro e w' ⟨rfl, rfl⟩
  go_wp2_with fail
  go_loopw [6, 21] (fun s6 s wr => ∃ (k : Nat) (v : Value), k ≤ xs.length ∧ s = .int .i64 k ∧ v = s6 ∧ Hid (OwnsP wr w.heap.size v (shP xs m k)) ∧ Below w.heap.size w wr) (fun _ s _ => xs.length - (intOf s).toNat)
  case atStart => exact ⟨0, _, by omega, rfl, rfl, (by have := OwnsP.made (more w os0 d0) w.heap.size xs.length (by (first | omega | (simp; omega) | (simp; done))) (by omega); rw [size_more] at this; exact this), by repeat' (first | (with_reducible exact Below.refl _ _) | (with_reducible assumption) | (with_reducible refine Below.alloc ?_ ?_ _) | (with_reducible refine below_more ?_ ?_ _ _) | (with_reducible refine below_rd ?_ ?_ _ _) | (with_reducible refine Below.drew ?_) | (with_reducible refine Below.setCell ?_ ?_ _) | go_size)⟩
  case round =>
    obtain ⟨k, v, hk, rfl, rfl, hown, hbel⟩ := hrel
    by_cases hlt : k < xs.length
    · have hrlt : (k + m) % xs.length < xs.length := Nat.mod_lt _ (by omega)
      have hpk := PtAt.below (HP.out _ hrlt) hbel hb
      have HP2 := Lib.hid (shP_succ xs m k)
      have e1 : ((k : Int) + (m : Int)) % (xs.length : Int) = (((k + m) % xs.length : Nat) : Int) := by rw [Int.natCast_emod, Int.natCast_add]
      have e2 : ((k : Int) + (m : Int)).tmod (xs.length : Int) = (((k + m) % xs.length : Nat) : Int) := by rw [Int.tmod_eq_emod_of_nonneg (by omega), e1]
      obtain ⟨r, hr⟩ : ∃ r, (k + m) % xs.length = r := ⟨_, rfl⟩
      rw [hr] at hrlt hpk e1 e2
      obtain ⟨x, hxk⟩ : ∃ x, xs.getD r C8.zero = x := ⟨_, rfl⟩
      rw [hxk] at hpk
      have HX := Lib.hid (show xs.getD ((k + m) % xs.length) C8.zero = x by rw [hr, hxk])
      have HK := Lib.hid hpk
      have hz := hbel.size
      have hn3 : ¬ xs.length = 0 := by omega
      have hn4 : ¬ (xs.length : Int) = 0 := by omega
      have i0 : (0 : Int) ≤ (r : Int) := by omega
      have i1 : (r : Int) < (xs.length : Int) := by omega
      clear hpk hxk hr
      go_wp2_with (first
        | ((with_reducible refine wpList_load_pt (op := ⟨some 33, .load 42 (.tmp 32), _, _, _, _⟩) rfl _ _ rfl b (r * 8) _ HK.out _ Try.underlying42 rfl infoC8 ?_ ?_); (focus rfl))
        | (at_builtin; (refine wpList_append_lies _ rfl _ _ _ rfl w.heap.size 42 ic (cv C8.zero) 8 64 Try.underlying24 HI.out HZ0.out HZ1.out HZ2.out rfl (by omega) v (shP xs m k).length (rowsV (shP xs m k)).toList (by rfl) (hown.out.alloc _) ⟨wr.heap.size, 0, none⟩ 1 1 (row x).toList (by rfl) (by rfl) (World.news_of_block (heap_at2 _ _ (by (first | omega | (simp; omega) | (simp; done))))) (rowL_ones _) (by omega) (by rw [shP_len]; unfold maxLen; omega) (by rw [shP_len]; omega) (by (first | omega | (simp; omega) | (simp; done))) _ rfl ?_; intro g cap2 w1 hown2 hgrow hat hlt2)))
      refine ⟨⟨k + 1, _, by omega, by go_num, rfl, ?_, ?_⟩, by simp [intOf]; omega⟩
      · show OwnsP _ _ _ _; rw [HP2.out, HX.out]; exact OwnsP.snoc hown2
      · exact below_grown (by repeat' (first | (with_reducible exact Below.refl _ _) | (with_reducible assumption) | (with_reducible refine Below.alloc ?_ ?_ _) | (with_reducible refine below_more ?_ ?_ _ _) | (with_reducible refine below_rd ?_ ?_ _ _) | (with_reducible refine Below.drew ?_) | (with_reducible refine Below.setCell ?_ ?_ _) | go_size)) hgrow hown.out.own_le (by (first | omega | (simp; omega) | (simp; done)))
    · obtain rfl : k = xs.length := by omega
      go_wp2
      go_returns
      exact ⟨_, rfl, hown.out, hbel⟩
set_option maxRecDepth 100000 in
theorem rowShift_any (a : Option Addr) (cap : Nat) (xs : List C8) (m : Int) (w : World) (h : HasP w a xs) (hn : xs.length ≤ 1048576) :
    Calls Try.prog 28 #[.slice a xs.length cap, .int .i64 m] w (RowPost w (shOk xs m) (shR xs m)) := by
  rcases Bool.eq_false_or_eq_true (rvOk xs) with hv | hv
  · rcases Bool.eq_false_or_eq_true (inB m 0 23) with h2 | h2
    · rcases h with rfl | ⟨b, rfl, hb, hp⟩
      · simp [rvOk, rwLen] at hv
      · obtain ⟨k, rfl⟩ := Int.eq_ofNat_of_zero_le (inB_iff.1 h2).1
        have e : shOk xs (k : Int) = true := by rw [shOk, hv, h2]; rfl
        rw [e, show shR xs (k : Int) = shP xs k xs.length by rw [shR, if_pos e]; rfl]
        exact rowShift_some b cap xs k (by have := (inB_iff.1 h2).2; omega) w hb hp hv
    · have H1 := Lib.hid h
      have e : shOk xs m = false := by rw [shOk, h2, Bool.and_false]
      have HO := Lib.hid (And.intro e (show shR xs m = [] by simp [shR, e]))
      have HV := Lib.hid hv
      clear h e hv
      go_enter Try.func28, Try.ntmps28
      go_wp2_with fail
      refine (rowValid_any _ _ xs _ (H1.out) (by omega)).mono ?_
      rw [HV.out]
      rintro e w' ⟨rfl, hb0⟩; obtain ⟨os0, d0, rfl⟩ := more_of_below hb0; clear hb0
      go_wp2_with fail
      refine (within_any _ _ _ _).mono ?_
      rw [h2]
      rintro e w' ⟨rfl, rfl⟩
      go_wp2
      go_returns
      rw [HO.out.1, HO.out.2]
      exact ⟨_, rfl, OwnsP.nil _ _, by repeat' (first | (with_reducible exact Below.refl _ _) | (with_reducible assumption) | (with_reducible refine Below.alloc ?_ ?_ _) | (with_reducible refine below_more ?_ ?_ _ _) | (with_reducible refine below_rd ?_ ?_ _ _) | (with_reducible refine Below.drew ?_) | (with_reducible refine Below.setCell ?_ ?_ _) | go_size)⟩
  · have H1 := Lib.hid h
    have e : shOk xs m = false := by rw [shOk, hv]; rfl
    have HO := Lib.hid (And.intro e (show shR xs m = [] by simp [shR, e]))
    have HV := Lib.hid hv
    clear h e hv
    go_enter Try.func28, Try.ntmps28
    go_wp2_with fail
    refine (rowValid_any _ _ xs _ (H1.out) (by omega)).mono ?_
    rw [HV.out]
    rintro e w' ⟨rfl, hb0⟩; obtain ⟨os0, d0, rfl⟩ := more_of_below hb0; clear hb0
    go_wp2
    go_returns
    rw [HO.out.1, HO.out.2]
    exact ⟨_, rfl, OwnsP.nil _ _, by repeat' (first | (with_reducible exact Below.refl _ _) | (with_reducible assumption) | (with_reducible refine Below.alloc ?_ ?_ _) | (with_reducible refine below_more ?_ ?_ _ _) | (with_reducible refine below_rd ?_ ?_ _ _) | (with_reducible refine Below.drew ?_) | (with_reducible refine Below.setCell ?_ ?_ _) | go_size)⟩
set_option maxRecDepth 100000 in
set_option maxHeartbeats 1000000 in
theorem specRowShift_some (b cap : Nat) (xs : List C8) (m : Nat) (hm : m ≤ 23) (w : World) (hb : b < w.heap.size) (hp : ∀ i, i < xs.length → PtAt w b (i * 8) (xs.getD i C8.zero)) (hv : rvOk xs = true) :
    Calls Try.prog 29 #[.slice (some ⟨b, 0, none⟩) xs.length cap, .int .i64 m] w (RowPost w true (shP xs m xs.length)) := by
  have H1 := Lib.hid (show HasP w (some ⟨b, 0, none⟩) xs from Or.inr ⟨b, rfl, hb, hp⟩)
  have HP := Lib.hid hp
  obtain ⟨⟨hn1, hn2, -⟩, -⟩ := rvOk_get hv
  have HRV := Lib.hid hv
  have hin : inB m 0 23 = true := inB_iff.2 ⟨by omega, by omega⟩
  skip
  obtain ⟨ic, hi, hz0, hz1, hz2⟩ := infoC
  have HI := Lib.hid hi
  have HZ0 := Lib.hid hz0
  have HZ1 := Lib.hid hz1
  have HZ2 := Lib.hid hz2
  clear hp hi hz0 hz1 hz2 hv
  go_enter Try.func29, Try.ntmps29
  go_wp2_with fail
  refine (specRowValid_any _ _ xs _ (H1.out.alloc _) (by omega)).mono ?_
  rw [HRV.out]
  rintro e w' ⟨rfl, hb0⟩; obtain ⟨os0, d0, rfl⟩ := more_of_below hb0; clear hb0
  go_wp2_with fail
  refine (l6In_any _ _ _ _).mono ?_
  rw [hin]
  rintro e w' ⟨rfl, rfl⟩
  go_wp2_with fail
  go_loopw [6, 7] (fun s6 s wr => ∃ (k : Nat) (v : Value), k ≤ xs.length ∧ s = .int .i64 k ∧ v = s6 ∧ Hid (OwnsP wr w.heap.size v (shP xs m k)) ∧ Below w.heap.size w wr) (fun _ s _ => xs.length - (intOf s).toNat)
  case atStart => exact ⟨0, _, by omega, rfl, rfl, (OwnsP.empty rfl (Nat.le_refl _)).more _ _, by repeat' (first | (with_reducible exact Below.refl _ _) | (with_reducible assumption) | (with_reducible refine Below.alloc ?_ ?_ _) | (with_reducible refine below_more ?_ ?_ _ _) | (with_reducible refine below_rd ?_ ?_ _ _) | (with_reducible refine Below.drew ?_) | (with_reducible refine Below.setCell ?_ ?_ _) | go_size)⟩
  case round =>
    obtain ⟨k, v, hk, rfl, rfl, hown, hbel⟩ := hrel
    by_cases hlt : k < xs.length
    · have hrlt : (k + m) % xs.length < xs.length := Nat.mod_lt _ (by omega)
      have hpk := PtAt.below (HP.out _ hrlt) hbel hb
      have HP2 := Lib.hid (shP_succ xs m k)
      have e1 : ((k : Int) + (m : Int)) % (xs.length : Int) = (((k + m) % xs.length : Nat) : Int) := by rw [Int.natCast_emod, Int.natCast_add]
      have e2 : ((k : Int) + (m : Int)).tmod (xs.length : Int) = (((k + m) % xs.length : Nat) : Int) := by rw [Int.tmod_eq_emod_of_nonneg (by omega), e1]
      obtain ⟨r, hr⟩ : ∃ r, (k + m) % xs.length = r := ⟨_, rfl⟩
      rw [hr] at hrlt hpk e1 e2
      obtain ⟨x, hxk⟩ : ∃ x, xs.getD r C8.zero = x := ⟨_, rfl⟩
      rw [hxk] at hpk
      have HX := Lib.hid (show xs.getD ((k + m) % xs.length) C8.zero = x by rw [hr, hxk])
      have HK := Lib.hid hpk
      have hz := hbel.size
      have hn3 : ¬ xs.length = 0 := by omega
      have hn4 : ¬ (xs.length : Int) = 0 := by omega
      have i0 : (0 : Int) ≤ (r : Int) := by omega
      have i1 : (r : Int) < (xs.length : Int) := by omega
      clear hpk hxk hr
      go_wp2_with (first
        | ((with_reducible refine wpList_load_pt (op := ⟨some 33, .load 42 (.tmp 32), _, _, _, _⟩) rfl _ _ rfl b (r * 8) _ HK.out _ Try.underlying42 rfl infoC8 ?_ ?_); (focus rfl))
        | (at_builtin; (refine wpList_append_lies _ rfl _ _ _ rfl w.heap.size 42 ic (cv C8.zero) 8 64 Try.underlying24 HI.out HZ0.out HZ1.out HZ2.out rfl (by omega) v (shP xs m k).length (rowsV (shP xs m k)).toList (by rfl) (hown.out.alloc _) ⟨wr.heap.size, 0, none⟩ 1 1 (row x).toList (by rfl) (by rfl) (World.news_of_block (heap_at2 _ _ (by (first | omega | (simp; omega) | (simp; done))))) (rowL_ones _) (by omega) (by rw [shP_len]; unfold maxLen; omega) (by rw [shP_len]; omega) (by (first | omega | (simp; omega) | (simp; done))) _ rfl ?_; intro g cap2 w1 hown2 hgrow hat hlt2)))
      refine ⟨⟨k + 1, _, by omega, by go_num, rfl, ?_, ?_⟩, by simp [intOf]; omega⟩
      · show OwnsP _ _ _ _; rw [HP2.out, HX.out]; exact OwnsP.snoc hown2
      · exact below_grown (by repeat' (first | (with_reducible exact Below.refl _ _) | (with_reducible assumption) | (with_reducible refine Below.alloc ?_ ?_ _) | (with_reducible refine below_more ?_ ?_ _ _) | (with_reducible refine below_rd ?_ ?_ _ _) | (with_reducible refine Below.drew ?_) | (with_reducible refine Below.setCell ?_ ?_ _) | go_size)) hgrow hown.out.own_le (by (first | omega | (simp; omega) | (simp; done)))
    · obtain rfl : k = xs.length := by omega
      go_wp2
      go_returns
      exact ⟨_, rfl, hown.out, hbel⟩
set_option maxRecDepth 100000 in
theorem specRowShift_any (a : Option Addr) (cap : Nat) (xs : List C8) (m : Int) (w : World) (h : HasP w a xs) (hn : xs.length ≤ 1048576) :
    Calls Try.prog 29 #[.slice a xs.length cap, .int .i64 m] w (RowPost w (shOk xs m) (shR xs m)) := by
  rcases Bool.eq_false_or_eq_true (rvOk xs) with hv | hv
  · rcases Bool.eq_false_or_eq_true (inB m 0 23) with h2 | h2
    · rcases h with rfl | ⟨b, rfl, hb, hp⟩
      · simp [rvOk, rwLen] at hv
      · obtain ⟨k, rfl⟩ := Int.eq_ofNat_of_zero_le (inB_iff.1 h2).1
        have e : shOk xs (k : Int) = true := by rw [shOk, hv, h2]; rfl
        rw [e, show shR xs (k : Int) = shP xs k xs.length by rw [shR, if_pos e]; rfl]
        exact specRowShift_some b cap xs k (by have := (inB_iff.1 h2).2; omega) w hb hp hv
    · have H1 := Lib.hid h
      have e : shOk xs m = false := by rw [shOk, h2, Bool.and_false]
      have HO := Lib.hid (And.intro e (show shR xs m = [] by simp [shR, e]))
      have HV := Lib.hid hv
      clear h e hv
      go_enter Try.func29, Try.ntmps29
      go_wp2_with fail
      refine (specRowValid_any _ _ xs _ (H1.out.alloc _) (by omega)).mono ?_
      rw [HV.out]
      rintro e w' ⟨rfl, hb0⟩; obtain ⟨os0, d0, rfl⟩ := more_of_below hb0; clear hb0
      go_wp2_with fail
      refine (l6In_any _ _ _ _).mono ?_
      rw [h2]
      rintro e w' ⟨rfl, rfl⟩
      go_wp2
      go_returns
      rw [HO.out.1, HO.out.2]
      exact ⟨_, rfl, (OwnsP.empty rfl (Nat.le_refl _)).more _ _, by repeat' (first | (with_reducible exact Below.refl _ _) | (with_reducible assumption) | (with_reducible refine Below.alloc ?_ ?_ _) | (with_reducible refine below_more ?_ ?_ _ _) | (with_reducible refine below_rd ?_ ?_ _ _) | (with_reducible refine Below.drew ?_) | (with_reducible refine Below.setCell ?_ ?_ _) | go_size)⟩
  · have H1 := Lib.hid h
    have e : shOk xs m = false := by rw [shOk, hv]; rfl
    have HO := Lib.hid (And.intro e (show shR xs m = [] by simp [shR, e]))
    have HV := Lib.hid hv
    clear h e hv
    go_enter Try.func29, Try.ntmps29
    go_wp2_with fail
    refine (specRowValid_any _ _ xs _ (H1.out.alloc _) (by omega)).mono ?_
    rw [HV.out]
    rintro e w' ⟨rfl, hb0⟩; obtain ⟨os0, d0, rfl⟩ := more_of_below hb0; clear hb0
    go_wp2
    go_returns
    rw [HO.out.1, HO.out.2]
    exact ⟨_, rfl, (OwnsP.empty rfl (Nat.le_refl _)).more _ _, by repeat' (first | (with_reducible exact Below.refl _ _) | (with_reducible assumption) | (with_reducible refine Below.alloc ?_ ?_ _) | (with_reducible refine below_more ?_ ?_ _ _) | (with_reducible refine below_rd ?_ ?_ _ _) | (with_reducible refine Below.drew ?_) | (with_reducible refine Below.setCell ?_ ?_ _) | go_size)⟩

end Go.Proofs.Ytelgbmebjickeaa
