/- RowOf, of the program and of the reference. -/
import Derived.Test.YtklmlodapinflaaWheelC
import Derived.Test.YtklmlodapinflaaRowF
namespace Go.Proofs.Ytklmlodapinflaa
open Go.RowKit

/-- The length of a row, whatever number is asked. -/
def rwLenI (n : Int) : Bool := decide (1 ≤ n) && rwLen n.toNat
theorem rwLenI_get {n : Int} (h : rwLenI n = true) : ∃ k : Nat, n = k ∧ 1 ≤ k ∧ k ≤ 24 ∧ 24 % k = 0 := by
  simp only [rwLenI, Bool.and_eq_true, decide_eq_true_eq] at h
  obtain ⟨k, rfl⟩ := Int.eq_ofNat_of_zero_le (show (0 : Int) ≤ n by omega)
  have h2 : rwLen k = true := h.2
  have h3 := rwLen_le h2
  exact ⟨k, rfl, h3.1, h3.2, (rwLen_iff.1 h2).2⟩
theorem rwLen_big {k : Nat} (h : 24 < k) : rwLen k = false := by
  rcases Bool.eq_false_or_eq_true (rwLen k) with h1 | h1
  · have := rwLen_le h1; omega
  · exact h1
theorem dividesI_any (n : Int) (hn : n ≤ 9223372036854775807) (w : World) :
    Calls Try.prog 98 #[.int .i64 n] w fun e w' => e = .returned (.bool (rwLenI n)) ∧ w = w' := by
  by_cases h1 : 1 ≤ n
  · obtain ⟨k, rfl⟩ := Int.eq_ofNat_of_zero_le (show (0 : Int) ≤ n by omega)
    rw [show rwLenI (k : Int) = rwLen k by rw [rwLenI, decide_eq_true h1]; rfl]
    by_cases h2 : k ≤ 1048576
    · exact divides_any k h2 w
    · rw [rwLen_big (by omega)]
      have h5 : (24 : Int).tmod (k : Int) = 24 := Int.tmod_eq_of_lt (by omega) (by omega)
      have h6 : (24 : Int) % (k : Int) = 24 := Int.emod_eq_of_lt (by omega) (by omega)
      have h7 : ¬ (k : Int) = 0 := by omega
      have h8 : ¬ k = 0 := by omega
      go_enter Try.func98, Try.ntmps98
      go_wp2
      go_ret
      exact ⟨rfl, rfl⟩
  · rw [show rwLenI n = false by rw [rwLenI, decide_eq_false h1]; rfl]
    go_enter Try.func98, Try.ntmps98
    go_wp2
    go_ret
    exact ⟨rfl, rfl⟩
theorem l6rLengthI_any (n : Int) (hn : n ≤ 9223372036854775807) (w : World) :
    Calls Try.prog 97 #[.int .i64 n] w fun e w' => e = .returned (.bool (rwLenI n)) ∧ w = w' := by
  by_cases h1 : 1 ≤ n
  · obtain ⟨k, rfl⟩ := Int.eq_ofNat_of_zero_le (show (0 : Int) ≤ n by omega)
    rw [show rwLenI (k : Int) = rwLen k by rw [rwLenI, decide_eq_true h1]; rfl]
    by_cases h2 : k ≤ 1048576
    · exact l6rLength_any k h2 w
    · rw [rwLen_big (by omega)]
      have h0 : ¬ k ≤ 24 := by omega
      go_enter Try.func97, Try.ntmps97
      go_wp2
      go_ret
      exact ⟨rfl, rfl⟩
  · rw [show rwLenI n = false by rw [rwLenI, decide_eq_false h1]; rfl]
    go_enter Try.func97, Try.ntmps97
    go_wp2
    go_ret
    exact ⟨rfl, rfl⟩
/-- The points of a row, and whether they are told. -/
def roT (n k : Nat) : Int := ((k * (24 / n) : Nat) : Int)
def roP (ds : List W9) (n m : Nat) : List C8 := (List.range m).map fun k => daP ds (roT n k)
def roG (ds : List W9) (n : Nat) : Nat → Bool
  | 0 => true
  | k + 1 => roG ds n k && daOk ds (roT n k)
theorem roP_succ (ds : List W9) (n k : Nat) : roP ds n (k + 1) = roP ds n k ++ [daP ds (roT n k)] := by simp [roP, List.range_succ]
theorem roP_len (ds : List W9) (n k : Nat) : (roP ds n k).length = k := by simp [roP]
theorem roG_no {ds : List W9} {n k : Nat} (h : roG ds n k = false) : ∀ m, k ≤ m → roG ds n m = false
  | 0, hn => by obtain rfl : k = 0 := by omega
                exact h
  | m + 1, hn => by
    by_cases e : k = m + 1
    · subst e; exact h
    · show (roG ds n m && _) = false
      rw [roG_no h m (by omega)]; rfl
def roH (ds : List W9) (n : Nat) : List C8 := if roG ds n n = true then roP ds n n else []
def roOk (ds : List W9) (n : Int) : Bool := rwLenI n && dvOk ds && roG ds n.toNat n.toNat
def roR (ds : List W9) (n : Int) : List C8 := if roOk ds n = true then roP ds n.toNat n.toNat else []
theorem roR_len (ds : List W9) (n : Int) : (roR ds n).length ≤ 1048576 := by
  unfold roR; split
  · rename_i h
    simp only [roOk, Bool.and_eq_true] at h
    obtain ⟨k, rfl, -, h2, -⟩ := rwLenI_get h.1.1
    rw [roP_len]
    show k ≤ _
    omega
  · simp
set_option maxRecDepth 100000 in
set_option maxHeartbeats 1000000 in
theorem rowOf_some (a : Option Addr) (cap : Nat) (ds : List W9) (n : Nat) (h1 : 1 ≤ n) (h2 : n ≤ 24) (hr : rwLenI n = true) (w : World) (h : HasW w a ds) (hn : ds.length ≤ 1048576) (hv : dvOk ds = true) :
    Calls Try.prog 48 #[.slice a ds.length cap, .int .i64 n] w (RowPost w (roG ds n n) (roH ds n)) := by
  have H1 := Lib.hid h
  have HRV := Lib.hid hv
  have HRL := Lib.hid hr
  have hmk := mkCyc0 n (by omega)
  obtain ⟨ic, hi, hz0, hz1, hz2⟩ := infoC
  have HI := Lib.hid hi
  have HZ0 := Lib.hid hz0
  have HZ1 := Lib.hid hz1
  have HZ2 := Lib.hid hz2
  clear hi hz0 hz1 hz2 hv h hr
  go_enter Try.func48, Try.ntmps48
  go_wp2_with fail
  refine (dividesI_any _ (by omega) _).mono ?_
  rw [HRL.out]
  rintro e w' ⟨rfl, rfl⟩
  go_wp2_with fail
  refine (designValid_any _ _ ds _ (by first | exact H1.out | exact H1.out.alloc _) hn).mono ?_
  rw [HRV.out]
  rintro e w' ⟨rfl, hb0⟩; obtain ⟨os0, d0, rfl⟩ := more_of_below hb0; clear hb0
  go_wp2_with fail
  go_loopw [6, 21] (fun s6 s wr => ∃ (k : Nat) (v : Value), k ≤ n ∧ s = .int .i64 k ∧ v = s6 ∧ Hid (roG ds n k = true) ∧ Hid (OwnsP wr w.heap.size v (roP ds n k)) ∧ Below w.heap.size w wr) (fun _ s _ => n - (intOf s).toNat)
  case atStart => exact ⟨0, _, by omega, rfl, rfl, rfl, (by have := OwnsP.made (more w os0 d0) w.heap.size n (by (first | omega | (simp; omega) | (simp; done))) (by omega); rw [size_more] at this; exact this), by repeat' (first | (with_reducible exact Below.refl _ _) | (with_reducible assumption) | (with_reducible refine Below.alloc ?_ ?_ _) | (with_reducible refine below_more ?_ ?_ _ _) | (with_reducible refine below_rd ?_ ?_ _ _) | (with_reducible refine Below.drew ?_) | (with_reducible refine Below.setCell ?_ ?_ _) | go_size)⟩
  case round =>
    obtain ⟨k, v, hk, rfl, rfl, hg, hown, hbel⟩ := hrel
    by_cases hlt : k < n
    · have hz := hbel.size
      have HP2 := Lib.hid (roP_succ ds n k)
      obtain ⟨q, hq⟩ : ∃ q : Nat, 24 / n = q := ⟨_, rfl⟩
      have hqb : q ≤ 24 := by rw [← hq]; exact Nat.div_le_self _ _
      obtain ⟨m, hm⟩ : ∃ m : Nat, k * q = m := ⟨_, rfl⟩
      have hmb : m ≤ 24 * 24 := by rw [← hm]; exact Nat.mul_le_mul (by omega) (by omega)
      have HT := Lib.hid (show roT n k = (m : Int) by rw [roT, hq, hm])
      have f1 : (24 : Int).tdiv (n : Int) = (q : Int) := by rw [Int.tdiv_eq_ediv_of_nonneg (by omega), ← hq]; rfl
      have f2 : (24 : Int) / (n : Int) = (q : Int) := by rw [← hq]; rfl
      have f3 : IntKind.i64.wrap (q : Int) = (q : Int) := IntWalk.i64_in _ (by omega)
      have f4 : IntKind.i64.wrap ((k : Int) * (q : Int)) = (m : Int) := by rw [← hm, Int.natCast_mul]; exact IntWalk.i64_in _ (by rw [← Int.natCast_mul, hm]; omega)
      have f5 : (k : Int) * (q : Int) = (m : Int) := by rw [← hm, Int.natCast_mul]
      have n3 : ¬ n = 0 := by omega
      have n4 : ¬ (n : Int) = 0 := by omega
      clear hq hm
      rcases Bool.eq_false_or_eq_true (daOk ds (m : Int)) with hd | hd
      · have e1 : daR ds (m : Int) = daP ds (m : Int) := by rw [daR, if_pos hd]
        have HG2 := Lib.hid (show roG ds n (k + 1) = true by show (roG ds n k && daOk ds (roT n k)) = true; rw [hg.out, HT.out, hd]; rfl)
        go_wp2_with fail
        refine (designAt_any _ _ ds _ _ (H1.out.below hbel rfl) hn).mono ?_
        rintro e w' ⟨rfl, hb⟩; obtain ⟨os, d, rfl⟩ := more_of_below hb; clear hb
        go_wp2_with (at_builtin; (refine wpList_append_lies _ rfl _ _ _ rfl w.heap.size 25 ic (cv C8.zero) 8 64 Try.underlying49 HI.out HZ0.out HZ1.out HZ2.out rfl (by omega) v (roP ds n k).length (rowsV (roP ds n k)).toList (by rfl) (((hown.out.more _ _).alloc _).alloc _) ⟨wr.heap.size + os.size + 1, 0, none⟩ 1 1 (row (daP ds (m : Int))).toList (by rfl) (by rfl) (World.news_of_block (heap_at2 _ _ (by (first | omega | (simp; omega) | (simp; done))))) (rowL_ones _) (by omega) (by rw [roP_len]; unfold maxLen; omega) (by rw [roP_len]; omega) (by (first | omega | (simp; omega) | (simp; done))) _ rfl ?_; intro g cap2 w1 hown2 hgrow hat hlt2))
        refine ⟨⟨k + 1, _, by omega, by go_num, rfl, HG2, ?_, ?_⟩, by simp [intOf]; omega⟩
        · show OwnsP _ _ _ _; rw [HP2.out, HT.out]; exact OwnsP.snoc hown2
        · exact below_grown (by repeat' (first | (with_reducible exact Below.refl _ _) | (with_reducible assumption) | (with_reducible refine Below.alloc ?_ ?_ _) | (with_reducible refine below_more ?_ ?_ _ _) | (with_reducible refine below_rd ?_ ?_ _ _) | (with_reducible refine Below.drew ?_) | (with_reducible refine Below.setCell ?_ ?_ _) | go_size)) hgrow hown.out.own_le (by (first | omega | (simp; omega) | (simp; done)))
      · have hno : roG ds n n = false := roG_no (k := k + 1) (by show (roG ds n k && daOk ds (roT n k)) = false; rw [HT.out, hd, Bool.and_false]) _ (by omega)
        have HO := Lib.hid (And.intro hno (show roH ds n = [] by rw [roH, hno]; rfl))
        clear hno
        go_wp2_with fail
        refine (designAt_any _ _ ds _ _ (H1.out.below hbel rfl) hn).mono ?_
        rintro e w' ⟨rfl, hb⟩; obtain ⟨os, d, rfl⟩ := more_of_below hb; clear hb
        go_wp2
        go_returns
        rw [HO.out.1, HO.out.2]
        exact ⟨_, rfl, by first | exact OwnsP.nil _ _ | exact OwnsP.empty (by (first | omega | (simp; omega) | (simp; done))) (by (first | omega | (simp; omega) | (simp; done))), by repeat' (first | (with_reducible exact Below.refl _ _) | (with_reducible assumption) | (with_reducible refine Below.alloc ?_ ?_ _) | (with_reducible refine below_more ?_ ?_ _ _) | (with_reducible refine below_rd ?_ ?_ _ _) | (with_reducible refine Below.drew ?_) | (with_reducible refine Below.setCell ?_ ?_ _) | go_size)⟩
    · obtain rfl : k = n := by omega
      have HO := Lib.hid (And.intro hg.out (show roH ds k = roP ds k k by rw [roH, hg.out]; rfl))
      go_wp2
      go_returns
      rw [HO.out.1, HO.out.2]
      exact ⟨_, rfl, hown.out, hbel⟩
set_option maxRecDepth 100000 in
theorem rowOf_any (a : Option Addr) (cap : Nat) (ds : List W9) (n : Int) (hn1 : n ≤ 9223372036854775807) (w : World) (h : HasW w a ds) (hn : ds.length ≤ 1048576) :
    Calls Try.prog 48 #[.slice a ds.length cap, .int .i64 n] w (RowPost w (roOk ds n) (roR ds n)) := by
  rcases Bool.eq_false_or_eq_true (rwLenI n) with hr | hr
  · rcases Bool.eq_false_or_eq_true (dvOk ds) with hv | hv
    · obtain ⟨k, rfl, h1, h2, -⟩ := rwLenI_get hr
      have e : roOk ds (k : Int) = roG ds k k := by rw [roOk, hr, hv]; rfl
      have e2 : roR ds (k : Int) = roH ds k := by rw [roR, e]; rfl
      rw [e, e2]
      exact rowOf_some a cap ds k h1 h2 hr w h hn hv
    · have H1 := Lib.hid h
      have e : roOk ds n = false := by rw [roOk, hv, Bool.and_false]; rfl
      have HO := Lib.hid (And.intro e (show roR ds n = [] by simp [roR, e]))
      have HV := Lib.hid hv
      have HR := Lib.hid hr
      clear h e hv hr
      go_enter Try.func48, Try.ntmps48
      go_wp2_with fail
      refine (dividesI_any _ hn1 _).mono ?_
      rw [HR.out]
      rintro e w' ⟨rfl, rfl⟩
      go_wp2_with fail
      refine (designValid_any _ _ ds _ (by first | exact H1.out | exact H1.out.alloc _) hn).mono ?_
      rw [HV.out]
      rintro e w' ⟨rfl, hb0⟩; obtain ⟨os0, d0, rfl⟩ := more_of_below hb0; clear hb0
      go_wp2
      go_returns
      rw [HO.out.1, HO.out.2]
      exact ⟨_, rfl, OwnsP.nil _ _, by repeat' (first | (with_reducible exact Below.refl _ _) | (with_reducible assumption) | (with_reducible refine Below.alloc ?_ ?_ _) | (with_reducible refine below_more ?_ ?_ _ _) | (with_reducible refine below_rd ?_ ?_ _ _) | (with_reducible refine Below.drew ?_) | (with_reducible refine Below.setCell ?_ ?_ _) | go_size)⟩
  · have e : roOk ds n = false := by rw [roOk, hr]; rfl
    have HO := Lib.hid (And.intro e (show roR ds n = [] by simp [roR, e]))
    have HR := Lib.hid hr
    clear h e hr
    go_enter Try.func48, Try.ntmps48
    go_wp2_with fail
    refine (dividesI_any _ hn1 _).mono ?_
    rw [HR.out]
    rintro e w' ⟨rfl, rfl⟩
    go_wp2
    go_returns
    rw [HO.out.1, HO.out.2]
    exact ⟨_, rfl, OwnsP.nil _ _, by repeat' (first | (with_reducible exact Below.refl _ _) | (with_reducible assumption) | (with_reducible refine Below.alloc ?_ ?_ _) | (with_reducible refine below_more ?_ ?_ _ _) | (with_reducible refine below_rd ?_ ?_ _ _) | (with_reducible refine Below.drew ?_) | (with_reducible refine Below.setCell ?_ ?_ _) | go_size)⟩
set_option maxRecDepth 100000 in
set_option maxHeartbeats 1000000 in
theorem specRowOf_some (a : Option Addr) (cap : Nat) (ds : List W9) (n : Nat) (h1 : 1 ≤ n) (h2 : n ≤ 24) (hr : rwLenI n = true) (w : World) (h : HasW w a ds) (hn : ds.length ≤ 1048576) (hv : dvOk ds = true) :
    Calls Try.prog 47 #[.slice a ds.length cap, .int .i64 n] w (RowPost w (roG ds n n) (roH ds n)) := by
  have H1 := Lib.hid h
  have HRV := Lib.hid hv
  have HRL := Lib.hid hr
  skip
  obtain ⟨ic, hi, hz0, hz1, hz2⟩ := infoC
  have HI := Lib.hid hi
  have HZ0 := Lib.hid hz0
  have HZ1 := Lib.hid hz1
  have HZ2 := Lib.hid hz2
  clear hi hz0 hz1 hz2 hv h hr
  go_enter Try.func47, Try.ntmps47
  go_wp2_with fail
  refine (l6rLengthI_any _ (by omega) _).mono ?_
  rw [HRL.out]
  rintro e w' ⟨rfl, rfl⟩
  go_wp2_with fail
  refine (specDesignValid_any _ _ ds _ (by first | exact H1.out | exact H1.out.alloc _) hn).mono ?_
  rw [HRV.out]
  rintro e w' ⟨rfl, hb0⟩; obtain ⟨os0, d0, rfl⟩ := more_of_below hb0; clear hb0
  go_wp2_with fail
  go_loopw [6, 7] (fun s6 s wr => ∃ (k : Nat) (v : Value), k ≤ n ∧ s = .int .i64 k ∧ v = s6 ∧ Hid (roG ds n k = true) ∧ Hid (OwnsP wr w.heap.size v (roP ds n k)) ∧ Below w.heap.size w wr) (fun _ s _ => n - (intOf s).toNat)
  case atStart => exact ⟨0, _, by omega, rfl, rfl, rfl, (OwnsP.empty rfl (Nat.le_refl _)).more _ _, by repeat' (first | (with_reducible exact Below.refl _ _) | (with_reducible assumption) | (with_reducible refine Below.alloc ?_ ?_ _) | (with_reducible refine below_more ?_ ?_ _ _) | (with_reducible refine below_rd ?_ ?_ _ _) | (with_reducible refine Below.drew ?_) | (with_reducible refine Below.setCell ?_ ?_ _) | go_size)⟩
  case round =>
    obtain ⟨k, v, hk, rfl, rfl, hg, hown, hbel⟩ := hrel
    by_cases hlt : k < n
    · have hz := hbel.size
      have HP2 := Lib.hid (roP_succ ds n k)
      obtain ⟨q, hq⟩ : ∃ q : Nat, 24 / n = q := ⟨_, rfl⟩
      have hqb : q ≤ 24 := by rw [← hq]; exact Nat.div_le_self _ _
      obtain ⟨m, hm⟩ : ∃ m : Nat, k * q = m := ⟨_, rfl⟩
      have hmb : m ≤ 24 * 24 := by rw [← hm]; exact Nat.mul_le_mul (by omega) (by omega)
      have HT := Lib.hid (show roT n k = (m : Int) by rw [roT, hq, hm])
      have f1 : (24 : Int).tdiv (n : Int) = (q : Int) := by rw [Int.tdiv_eq_ediv_of_nonneg (by omega), ← hq]; rfl
      have f2 : (24 : Int) / (n : Int) = (q : Int) := by rw [← hq]; rfl
      have f3 : IntKind.i64.wrap (q : Int) = (q : Int) := IntWalk.i64_in _ (by omega)
      have f4 : IntKind.i64.wrap ((k : Int) * (q : Int)) = (m : Int) := by rw [← hm, Int.natCast_mul]; exact IntWalk.i64_in _ (by rw [← Int.natCast_mul, hm]; omega)
      have f5 : (k : Int) * (q : Int) = (m : Int) := by rw [← hm, Int.natCast_mul]
      have n3 : ¬ n = 0 := by omega
      have n4 : ¬ (n : Int) = 0 := by omega
      clear hq hm
      rcases Bool.eq_false_or_eq_true (daOk ds (m : Int)) with hd | hd
      · have e1 : daR ds (m : Int) = daP ds (m : Int) := by rw [daR, if_pos hd]
        have HG2 := Lib.hid (show roG ds n (k + 1) = true by show (roG ds n k && daOk ds (roT n k)) = true; rw [hg.out, HT.out, hd]; rfl)
        go_wp2_with fail
        refine (specDesignAt_any _ _ ds _ _ (H1.out.below hbel rfl) hn).mono ?_
        rintro e w' ⟨rfl, hb⟩; obtain ⟨os, d, rfl⟩ := more_of_below hb; clear hb
        go_wp2_with (at_builtin; (refine wpList_append_lies _ rfl _ _ _ rfl w.heap.size 25 ic (cv C8.zero) 8 64 Try.underlying49 HI.out HZ0.out HZ1.out HZ2.out rfl (by omega) v (roP ds n k).length (rowsV (roP ds n k)).toList (by rfl) (((hown.out.more _ _).alloc _).alloc _) ⟨wr.heap.size + os.size + 1, 0, none⟩ 1 1 (row (daP ds (m : Int))).toList (by rfl) (by rfl) (World.news_of_block (heap_at2 _ _ (by (first | omega | (simp; omega) | (simp; done))))) (rowL_ones _) (by omega) (by rw [roP_len]; unfold maxLen; omega) (by rw [roP_len]; omega) (by (first | omega | (simp; omega) | (simp; done))) _ rfl ?_; intro g cap2 w1 hown2 hgrow hat hlt2))
        refine ⟨⟨k + 1, _, by omega, by go_num, rfl, HG2, ?_, ?_⟩, by simp [intOf]; omega⟩
        · show OwnsP _ _ _ _; rw [HP2.out, HT.out]; exact OwnsP.snoc hown2
        · exact below_grown (by repeat' (first | (with_reducible exact Below.refl _ _) | (with_reducible assumption) | (with_reducible refine Below.alloc ?_ ?_ _) | (with_reducible refine below_more ?_ ?_ _ _) | (with_reducible refine below_rd ?_ ?_ _ _) | (with_reducible refine Below.drew ?_) | (with_reducible refine Below.setCell ?_ ?_ _) | go_size)) hgrow hown.out.own_le (by (first | omega | (simp; omega) | (simp; done)))
      · have hno : roG ds n n = false := roG_no (k := k + 1) (by show (roG ds n k && daOk ds (roT n k)) = false; rw [HT.out, hd, Bool.and_false]) _ (by omega)
        have HO := Lib.hid (And.intro hno (show roH ds n = [] by rw [roH, hno]; rfl))
        clear hno
        go_wp2_with fail
        refine (specDesignAt_any _ _ ds _ _ (H1.out.below hbel rfl) hn).mono ?_
        rintro e w' ⟨rfl, hb⟩; obtain ⟨os, d, rfl⟩ := more_of_below hb; clear hb
        go_wp2
        go_returns
        rw [HO.out.1, HO.out.2]
        exact ⟨_, rfl, by first | exact OwnsP.nil _ _ | exact OwnsP.empty (by (first | omega | (simp; omega) | (simp; done))) (by (first | omega | (simp; omega) | (simp; done))), by repeat' (first | (with_reducible exact Below.refl _ _) | (with_reducible assumption) | (with_reducible refine Below.alloc ?_ ?_ _) | (with_reducible refine below_more ?_ ?_ _ _) | (with_reducible refine below_rd ?_ ?_ _ _) | (with_reducible refine Below.drew ?_) | (with_reducible refine Below.setCell ?_ ?_ _) | go_size)⟩
    · obtain rfl : k = n := by omega
      have HO := Lib.hid (And.intro hg.out (show roH ds k = roP ds k k by rw [roH, hg.out]; rfl))
      go_wp2
      go_returns
      rw [HO.out.1, HO.out.2]
      exact ⟨_, rfl, hown.out, hbel⟩
set_option maxRecDepth 100000 in
theorem specRowOf_any (a : Option Addr) (cap : Nat) (ds : List W9) (n : Int) (hn1 : n ≤ 9223372036854775807) (w : World) (h : HasW w a ds) (hn : ds.length ≤ 1048576) :
    Calls Try.prog 47 #[.slice a ds.length cap, .int .i64 n] w (RowPost w (roOk ds n) (roR ds n)) := by
  rcases Bool.eq_false_or_eq_true (rwLenI n) with hr | hr
  · rcases Bool.eq_false_or_eq_true (dvOk ds) with hv | hv
    · obtain ⟨k, rfl, h1, h2, -⟩ := rwLenI_get hr
      have e : roOk ds (k : Int) = roG ds k k := by rw [roOk, hr, hv]; rfl
      have e2 : roR ds (k : Int) = roH ds k := by rw [roR, e]; rfl
      rw [e, e2]
      exact specRowOf_some a cap ds k h1 h2 hr w h hn hv
    · have H1 := Lib.hid h
      have e : roOk ds n = false := by rw [roOk, hv, Bool.and_false]; rfl
      have HO := Lib.hid (And.intro e (show roR ds n = [] by simp [roR, e]))
      have HV := Lib.hid hv
      have HR := Lib.hid hr
      clear h e hv hr
      go_enter Try.func47, Try.ntmps47
      go_wp2_with fail
      refine (l6rLengthI_any _ hn1 _).mono ?_
      rw [HR.out]
      rintro e w' ⟨rfl, rfl⟩
      go_wp2_with fail
      refine (specDesignValid_any _ _ ds _ (by first | exact H1.out | exact H1.out.alloc _) hn).mono ?_
      rw [HV.out]
      rintro e w' ⟨rfl, hb0⟩; obtain ⟨os0, d0, rfl⟩ := more_of_below hb0; clear hb0
      go_wp2
      go_returns
      rw [HO.out.1, HO.out.2]
      exact ⟨_, rfl, (OwnsP.empty rfl (Nat.le_refl _)).more _ _, by repeat' (first | (with_reducible exact Below.refl _ _) | (with_reducible assumption) | (with_reducible refine Below.alloc ?_ ?_ _) | (with_reducible refine below_more ?_ ?_ _ _) | (with_reducible refine below_rd ?_ ?_ _ _) | (with_reducible refine Below.drew ?_) | (with_reducible refine Below.setCell ?_ ?_ _) | go_size)⟩
  · have e : roOk ds n = false := by rw [roOk, hr]; rfl
    have HO := Lib.hid (And.intro e (show roR ds n = [] by simp [roR, e]))
    have HR := Lib.hid hr
    clear h e hr
    go_enter Try.func47, Try.ntmps47
    go_wp2_with fail
    refine (l6rLengthI_any _ hn1 _).mono ?_
    rw [HR.out]
    rintro e w' ⟨rfl, rfl⟩
    go_wp2
    go_returns
    rw [HO.out.1, HO.out.2]
    exact ⟨_, rfl, OwnsP.empty rfl (Nat.le_refl _), by repeat' (first | (with_reducible exact Below.refl _ _) | (with_reducible assumption) | (with_reducible refine Below.alloc ?_ ?_ _) | (with_reducible refine below_more ?_ ?_ _ _) | (with_reducible refine below_rd ?_ ?_ _ _) | (with_reducible refine Below.drew ?_) | (with_reducible refine Below.setCell ?_ ?_ _) | go_size)⟩

end Go.Proofs.Ytklmlodapinflaa
