/- Sums of squares of rows of points: SurdAdd, RowSquares, of the program and of the reference. -/
import Derived.Test.YtelgbmebjickeaaRowB
import Derived.Test.YtelgbmebjickeaaSurdH
namespace Go.Proofs.Ytelgbmebjickeaa
open Go.RowKit

def saOk (s t : S4) : Bool := okT s && okT t && okT (s.add t)
def saR (s t : S4) : S4 := if saOk s t = true then s.add t else S4.zero
theorem okT_big {s : S4} (h : okT s = true) : (-1000000000000 ≤ s.a ∧ s.a ≤ 1000000000000) ∧ (-1000000000000 ≤ s.b ∧ s.b ≤ 1000000000000) ∧ (-1000000000000 ≤ s.c ∧ s.c ≤ 1000000000000) ∧ (-1000000000000 ≤ s.d ∧ s.d ≤ 1000000000000) := by
  have := okT_lim.1 h
  unfold S4.lim at this; omega
theorem okT_S {s : S4} : okS s.a s.b s.c s.d = okT s := rfl

theorem l3Sum_one (a b c d a' b' c' d' : Int) (w : World) (h : (-1000000000000 ≤ a ∧ a ≤ 1000000000000) ∧ (-1000000000000 ≤ b ∧ b ≤ 1000000000000) ∧ (-1000000000000 ≤ c ∧ c ≤ 1000000000000) ∧ (-1000000000000 ≤ d ∧ d ≤ 1000000000000)) (h' : (-1000000000000 ≤ a' ∧ a' ≤ 1000000000000) ∧ (-1000000000000 ≤ b' ∧ b' ≤ 1000000000000) ∧ (-1000000000000 ≤ c' ∧ c' ≤ 1000000000000) ∧ (-1000000000000 ≤ d' ∧ d' ≤ 1000000000000)) :
    Calls Try.prog 93 #[sv a b c d, .int .i64 1, sv a' b' c' d'] w fun e w' => e = .returned (sv (a + a') (b + b') (c + c') (d + d')) ∧ Below w.heap.size w w' := by
  obtain ⟨⟨p1, q1⟩, ⟨p2, q2⟩, ⟨p3, q3⟩, ⟨p4, q4⟩⟩ := h
  obtain ⟨⟨p5, q5⟩, ⟨p6, q6⟩, ⟨p7, q7⟩, ⟨p8, q8⟩⟩ := h'
  go_enter Try.func93, Try.ntmps93
  go_wp2
  go_returns
  exact ⟨rfl, by repeat' (first | (with_reducible exact Below.refl _ _) | (with_reducible assumption) | (with_reducible refine Below.alloc ?_ ?_ _) | (with_reducible refine below_more ?_ ?_ _ _) | (with_reducible refine below_rd ?_ ?_ _ _) | (with_reducible refine Below.drew ?_) | (with_reducible refine Below.setCell ?_ ?_ _) | go_size)⟩
set_option maxHeartbeats 1000000 in
theorem surdAdd_any (s t : S4) (w : World) :
    Calls Try.prog 69 #[sS s, sS t] w fun e w' => e = .returned (.tuple #[sS (saR s t), .bool (saOk s t)]) ∧ Below w.heap.size w w' := by
  rcases Bool.eq_false_or_eq_true (okT s) with h1 | h1
  · rcases Bool.eq_false_or_eq_true (okT t) with h2 | h2
    · have B1 := Lib.hid (okT_big h1)
      have B2 := Lib.hid (okT_big h2)
      have e1 : okS s.a s.b s.c s.d = true := h1
      have e2 : okS t.a t.b t.c t.d = true := h2
      rcases Bool.eq_false_or_eq_true (okT (s.add t)) with h3 | h3
      · have H3 := Lib.hid (show okS (s.a + t.a) (s.b + t.b) (s.c + t.c) (s.d + t.d) = true from h3)
        have e : saOk s t = true := by simp [saOk, h1, h2, h3]
        rw [e, show saR s t = s.add t by simp [saR, e]]
        clear e h1 h2 h3
        go_enter Try.func69, Try.ntmps69
        go_wp2_with (first
          | (go_at_call 97; refine (valid_any _ _ _ _ _).mono ?_; rintro e w' ⟨rfl, hb⟩; obtain ⟨os, d, rfl⟩ := more_of_below hb; clear hb)
          | (go_at_call 98; refine (splus_any _ _ _ _ _ _ _ _ _ B1.out B2.out).mono ?_; rintro e w' ⟨rfl, hb⟩; obtain ⟨os, d, rfl⟩ := more_of_below hb; clear hb)
          | (go_at_call 96; refine (made_yes _ _ _ _ _ H3.out).mono ?_; rintro e w' ⟨rfl, hb⟩; obtain ⟨os, d, rfl⟩ := more_of_below hb; clear hb))
        go_returns
        exact ⟨rfl, by repeat' (first | (with_reducible exact Below.refl _ _) | (with_reducible assumption) | (with_reducible refine Below.alloc ?_ ?_ _) | (with_reducible refine below_more ?_ ?_ _ _) | (with_reducible refine below_rd ?_ ?_ _ _) | (with_reducible refine Below.drew ?_) | (with_reducible refine Below.setCell ?_ ?_ _) | go_size)⟩
      · have H3 := Lib.hid (show okS (s.a + t.a) (s.b + t.b) (s.c + t.c) (s.d + t.d) = false from h3)
        have e : saOk s t = false := by simp [saOk, h1, h2, h3]
        rw [e, show saR s t = S4.zero by simp [saR, e]]
        clear e h1 h2 h3
        go_enter Try.func69, Try.ntmps69
        go_wp2_with (first
          | (go_at_call 97; refine (valid_any _ _ _ _ _).mono ?_; rintro e w' ⟨rfl, hb⟩; obtain ⟨os, d, rfl⟩ := more_of_below hb; clear hb)
          | (go_at_call 98; refine (splus_any _ _ _ _ _ _ _ _ _ B1.out B2.out).mono ?_; rintro e w' ⟨rfl, hb⟩; obtain ⟨os, d, rfl⟩ := more_of_below hb; clear hb)
          | (go_at_call 96; refine (made_no _ _ _ _ _ H3.out).mono ?_; rintro e w' ⟨rfl, hb⟩; obtain ⟨os, d, rfl⟩ := more_of_below hb; clear hb))
        go_returns
        exact ⟨rfl, by repeat' (first | (with_reducible exact Below.refl _ _) | (with_reducible assumption) | (with_reducible refine Below.alloc ?_ ?_ _) | (with_reducible refine below_more ?_ ?_ _ _) | (with_reducible refine below_rd ?_ ?_ _ _) | (with_reducible refine Below.drew ?_) | (with_reducible refine Below.setCell ?_ ?_ _) | go_size)⟩
    · have e1 : okS s.a s.b s.c s.d = true := h1
      have e2 : okS t.a t.b t.c t.d = false := h2
      have e : saOk s t = false := by simp [saOk, h1, h2]
      rw [e, show saR s t = S4.zero by simp [saR, e]]
      clear e h1 h2
      go_enter Try.func69, Try.ntmps69
      go_wp2_with (go_at_call 97; refine (valid_any _ _ _ _ _).mono ?_; rintro e w' ⟨rfl, hb⟩; obtain ⟨os, d, rfl⟩ := more_of_below hb; clear hb)
      go_returns
      exact ⟨rfl, by repeat' (first | (with_reducible exact Below.refl _ _) | (with_reducible assumption) | (with_reducible refine Below.alloc ?_ ?_ _) | (with_reducible refine below_more ?_ ?_ _ _) | (with_reducible refine below_rd ?_ ?_ _ _) | (with_reducible refine Below.drew ?_) | (with_reducible refine Below.setCell ?_ ?_ _) | go_size)⟩
  · have e1 : okS s.a s.b s.c s.d = false := h1
    have e : saOk s t = false := by simp [saOk, h1]
    rw [e, show saR s t = S4.zero by simp [saR, e]]
    clear e h1
    go_enter Try.func69, Try.ntmps69
    go_wp2_with (go_at_call 97; refine (valid_any _ _ _ _ _).mono ?_; rintro e w' ⟨rfl, hb⟩; obtain ⟨os, d, rfl⟩ := more_of_below hb; clear hb)
    go_returns
    exact ⟨rfl, by repeat' (first | (with_reducible exact Below.refl _ _) | (with_reducible assumption) | (with_reducible refine Below.alloc ?_ ?_ _) | (with_reducible refine below_more ?_ ?_ _ _) | (with_reducible refine below_rd ?_ ?_ _ _) | (with_reducible refine Below.drew ?_) | (with_reducible refine Below.setCell ?_ ?_ _) | go_size)⟩

set_option maxHeartbeats 1000000 in
theorem specSurdAdd_any (s t : S4) (w : World) :
    Calls Try.prog 67 #[sS s, sS t] w fun e w' => e = .returned (.tuple #[sS (saR s t), .bool (saOk s t)]) ∧ Below w.heap.size w w' := by
  rcases Bool.eq_false_or_eq_true (okT s) with h1 | h1
  · rcases Bool.eq_false_or_eq_true (okT t) with h2 | h2
    · have B1 := Lib.hid (okT_big h1)
      have B2 := Lib.hid (okT_big h2)
      have e1 : okS s.a s.b s.c s.d = true := h1
      have e2 : okS t.a t.b t.c t.d = true := h2
      rcases Bool.eq_false_or_eq_true (okT (s.add t)) with h3 | h3
      · have H3 := Lib.hid (show okS (s.a + t.a) (s.b + t.b) (s.c + t.c) (s.d + t.d) = true from h3)
        have e : saOk s t = true := by simp [saOk, h1, h2, h3]
        rw [e, show saR s t = s.add t by simp [saR, e]]
        clear e h1 h2 h3
        go_enter Try.func67, Try.ntmps67
        go_wp2_with (first
          | (go_at_call 92; refine (specValid_any _ _ _ _ _).mono ?_; rintro e w' ⟨rfl, hb⟩; obtain ⟨os, d, rfl⟩ := more_of_below hb; clear hb)
          | (go_at_call 93; refine (l3Sum_one _ _ _ _ _ _ _ _ _ B1.out B2.out).mono ?_; rintro e w' ⟨rfl, hb⟩; obtain ⟨os, d, rfl⟩ := more_of_below hb; clear hb)
          | (go_at_call 90; refine (done_yes _ _ _ _ _ H3.out).mono ?_; rintro e w' ⟨rfl, hb⟩; obtain ⟨os, d, rfl⟩ := more_of_below hb; clear hb))
        go_returns
        exact ⟨rfl, by repeat' (first | (with_reducible exact Below.refl _ _) | (with_reducible assumption) | (with_reducible refine Below.alloc ?_ ?_ _) | (with_reducible refine below_more ?_ ?_ _ _) | (with_reducible refine below_rd ?_ ?_ _ _) | (with_reducible refine Below.drew ?_) | (with_reducible refine Below.setCell ?_ ?_ _) | go_size)⟩
      · have H3 := Lib.hid (show okS (s.a + t.a) (s.b + t.b) (s.c + t.c) (s.d + t.d) = false from h3)
        have e : saOk s t = false := by simp [saOk, h1, h2, h3]
        rw [e, show saR s t = S4.zero by simp [saR, e]]
        clear e h1 h2 h3
        go_enter Try.func67, Try.ntmps67
        go_wp2_with (first
          | (go_at_call 92; refine (specValid_any _ _ _ _ _).mono ?_; rintro e w' ⟨rfl, hb⟩; obtain ⟨os, d, rfl⟩ := more_of_below hb; clear hb)
          | (go_at_call 93; refine (l3Sum_one _ _ _ _ _ _ _ _ _ B1.out B2.out).mono ?_; rintro e w' ⟨rfl, hb⟩; obtain ⟨os, d, rfl⟩ := more_of_below hb; clear hb)
          | (go_at_call 90; refine (done_no _ _ _ _ _ H3.out).mono ?_; rintro e w' ⟨rfl, hb⟩; obtain ⟨os, d, rfl⟩ := more_of_below hb; clear hb))
        go_returns
        exact ⟨rfl, by repeat' (first | (with_reducible exact Below.refl _ _) | (with_reducible assumption) | (with_reducible refine Below.alloc ?_ ?_ _) | (with_reducible refine below_more ?_ ?_ _ _) | (with_reducible refine below_rd ?_ ?_ _ _) | (with_reducible refine Below.drew ?_) | (with_reducible refine Below.setCell ?_ ?_ _) | go_size)⟩
    · have e1 : okS s.a s.b s.c s.d = true := h1
      have e2 : okS t.a t.b t.c t.d = false := h2
      have e : saOk s t = false := by simp [saOk, h1, h2]
      rw [e, show saR s t = S4.zero by simp [saR, e]]
      clear e h1 h2
      go_enter Try.func67, Try.ntmps67
      go_wp2_with (go_at_call 92; refine (specValid_any _ _ _ _ _).mono ?_; rintro e w' ⟨rfl, hb⟩; obtain ⟨os, d, rfl⟩ := more_of_below hb; clear hb)
      go_returns
      exact ⟨rfl, by repeat' (first | (with_reducible exact Below.refl _ _) | (with_reducible assumption) | (with_reducible refine Below.alloc ?_ ?_ _) | (with_reducible refine below_more ?_ ?_ _ _) | (with_reducible refine below_rd ?_ ?_ _ _) | (with_reducible refine Below.drew ?_) | (with_reducible refine Below.setCell ?_ ?_ _) | go_size)⟩
  · have e1 : okS s.a s.b s.c s.d = false := h1
    have e : saOk s t = false := by simp [saOk, h1]
    rw [e, show saR s t = S4.zero by simp [saR, e]]
    clear e h1
    go_enter Try.func67, Try.ntmps67
    go_wp2_with (go_at_call 92; refine (specValid_any _ _ _ _ _).mono ?_; rintro e w' ⟨rfl, hb⟩; obtain ⟨os, d, rfl⟩ := more_of_below hb; clear hb)
    go_returns
    exact ⟨rfl, by repeat' (first | (with_reducible exact Below.refl _ _) | (with_reducible assumption) | (with_reducible refine Below.alloc ?_ ?_ _) | (with_reducible refine below_more ?_ ?_ _ _) | (with_reducible refine below_rd ?_ ?_ _ _) | (with_reducible refine Below.drew ?_) | (with_reducible refine Below.setCell ?_ ?_ _) | go_size)⟩


/-- The sum of the first norms, and whether it is told. -/
def sqS (xs : List C8) : Nat → S4
  | 0 => S4.zero
  | k + 1 => (sqS xs k).add (xs.getD k C8.zero).nrm
def sqG (xs : List C8) : Nat → Bool
  | 0 => true
  | k + 1 => sqG xs k && nmOk (xs.getD k C8.zero) && saOk (sqS xs k) (xs.getD k C8.zero).nrm
theorem sqG_no {xs : List C8} {k : Nat} (h : sqG xs k = false) : ∀ n, k ≤ n → sqG xs n = false
  | 0, hn => by obtain rfl : k = 0 := by omega
                exact h
  | n + 1, hn => by
    by_cases e : k = n + 1
    · subst e; exact h
    · show (sqG xs n && _ && _) = false
      rw [sqG_no h n (by omega)]; rfl
def rsOk (xs : List C8) : Bool := rvOk xs && sqG xs xs.length
def rsR (xs : List C8) : S4 := if rsOk xs = true then sqS xs xs.length else S4.zero
theorem PtAt.alloc {w : World} {b o : Nat} {x : C8} (h : PtAt w b o x) (ob : Obj) : PtAt (w.alloc ob) b o x := World.rangeAt_alloc h ob

set_option maxRecDepth 100000 in
set_option maxHeartbeats 2000000 in
theorem rowSquares_some (b cap : Nat) (xs : List C8) (w : World) (hb : b < w.heap.size) (hp : ∀ i, i < xs.length → PtAt w b (i * 8) (xs.getD i C8.zero)) (hn : xs.length ≤ 1048576) (hv : rvOk xs = true) :
    Calls Try.prog 38 #[.slice (some ⟨b, 0, none⟩) xs.length cap] w fun e w' => e = .returned (.tuple #[sS (rsR xs), .bool (rsOk xs)]) ∧ Below w.heap.size w w' := by
  have HW := Lib.hid (show HasP w (some ⟨b, 0, none⟩) xs from Or.inr ⟨b, rfl, hb, hp⟩)
  have HP := Lib.hid hp
  clear hp
  go_enter Try.func38, Try.ntmps38
  go_wp2_with fail
  (go_at_call 47; refine (rowValid_any _ _ _ _ (HW.out.alloc _) hn).mono ?_; rintro e w' ⟨rfl, hb⟩; obtain ⟨os0, d0, rfl⟩ := more_of_below hb; clear hb)
  go_wp2_with fail
  go_loopw [17] (fun s wr => ∃ k : Nat, k ≤ xs.length ∧ s = .int .i64 k ∧ Hid (sqG xs k = true) ∧ ∃ os d, wr = more ((more (w.alloc (.cells #[.int .i64 0, .int .i64 0, .int .i64 0, .int .i64 0] 47)) os0 d0).alloc (.cells #[.int .i64 (sqS xs k).a, .int .i64 (sqS xs k).b, .int .i64 (sqS xs k).c, .int .i64 (sqS xs k).d] 47)) os d) (fun s _ => xs.length - (intOf s).toNat)
  case atStart => exact ⟨0, by omega, rfl, rfl, _, _, more_self _⟩
  case round =>
    obtain ⟨k, hk, rfl, hg, os, d, rfl⟩ := hrel
    by_cases hlt : k < xs.length
    · have hpk : PtAt (more ((more (w.alloc (.cells #[.int .i64 0, .int .i64 0, .int .i64 0, .int .i64 0] 47)) os0 d0).alloc (.cells #[.int .i64 (sqS xs k).a, .int .i64 (sqS xs k).b, .int .i64 (sqS xs k).c, .int .i64 (sqS xs k).d] 47)) os d) b (k * 8) (xs.getD k C8.zero) := ((((HP.out k hlt).alloc _).more (by simp; omega) _ _).alloc _).more (by simp; omega) os d
      obtain ⟨x, hxk⟩ : ∃ x, xs.getD k C8.zero = x := ⟨_, rfl⟩
      rw [hxk] at hpk
      have HX := Lib.hid hxk
      have HK := Lib.hid hpk
      clear hpk hxk
      rcases Bool.eq_false_or_eq_true (nmOk x) with h1 | h1
      · have e1 : x.nmR = x.nrm := by rw [C8.nmR, if_pos h1]
        rcases Bool.eq_false_or_eq_true (saOk (sqS xs k) x.nrm) with h2 | h2
        · have e2 : saR (sqS xs k) x.nrm = sqS xs (k + 1) := by rw [saR, if_pos h2, ← HX.out]; rfl
          have hg2 : sqG xs (k + 1) = true := by show (sqG xs k && nmOk _ && saOk _ _) = true; rw [HX.out, hg.out, h1, h2]; rfl
          have HG2 := Lib.hid hg2
          clear hg2
          go_wp2_with (first
            | ((with_reducible refine wpList_load_pt (op := ⟨some 20, .load 42 (.tmp 19), _, _, _, _⟩) rfl _ _ rfl b (k * 8) _ HK.out _ Try.underlying42 rfl infoC8 ?_ ?_); (focus rfl))
            | (go_at_call 68; refine (surdNorm_any _ _).mono ?_; rintro e w' ⟨rfl, hb⟩; obtain ⟨os, d, rfl⟩ := more_of_below hb; clear hb)
            | (go_at_call 69; refine (surdAdd_any (sqS xs k) x.nrm _).mono ?_; rintro e w' ⟨rfl, hb⟩; obtain ⟨os, d, rfl⟩ := more_of_below hb; clear hb))
          go_roundw
          case rel => exact ⟨k + 1, by omega, by go_num, HG2, (by repeat' (first | (with_reducible exact IsMore.refl _) | (with_reducible refine IsMore.alloc ?_ _) | (with_reducible refine IsMore.more ?_ _ _) | (with_reducible refine IsMore.drew ?_)) : IsMore _ _)⟩
          case measure => simp [intOf]; omega
        · have hno : rsOk xs = false := by
            have : sqG xs (k + 1) = false := by show (sqG xs k && nmOk _ && saOk _ _) = false; rw [HX.out, hg.out, h1, h2]; rfl
            rw [rsOk, sqG_no this _ (by omega), Bool.and_false]
          have HO := Lib.hid (And.intro hno (show rsR xs = S4.zero by simp [rsR, hno]))
          clear hno
          go_wp2_with (first
            | ((with_reducible refine wpList_load_pt (op := ⟨some 20, .load 42 (.tmp 19), _, _, _, _⟩) rfl _ _ rfl b (k * 8) _ HK.out _ Try.underlying42 rfl infoC8 ?_ ?_); (focus rfl))
            | (go_at_call 68; refine (surdNorm_any _ _).mono ?_; rintro e w' ⟨rfl, hb⟩; obtain ⟨os, d, rfl⟩ := more_of_below hb; clear hb)
            | (go_at_call 69; refine (surdAdd_any (sqS xs k) x.nrm _).mono ?_; rintro e w' ⟨rfl, hb⟩; obtain ⟨os, d, rfl⟩ := more_of_below hb; clear hb))
          go_returns
          exact ⟨by rw [HO.out.1, HO.out.2]; try rfl, by repeat' (first | (with_reducible exact Below.refl _ _) | (with_reducible assumption) | (with_reducible refine Below.alloc ?_ ?_ _) | (with_reducible refine below_more ?_ ?_ _ _) | (with_reducible refine below_rd ?_ ?_ _ _) | (with_reducible refine Below.drew ?_) | (with_reducible refine Below.setCell ?_ ?_ _) | go_size)⟩
      · have hno : rsOk xs = false := by
          have : sqG xs (k + 1) = false := by show (sqG xs k && nmOk _ && saOk _ _) = false; rw [HX.out, hg.out, h1]; rfl
          rw [rsOk, sqG_no this _ (by omega), Bool.and_false]
        have HO := Lib.hid (And.intro hno (show rsR xs = S4.zero by simp [rsR, hno]))
        clear hno
        go_wp2_with (first
            | ((with_reducible refine wpList_load_pt (op := ⟨some 20, .load 42 (.tmp 19), _, _, _, _⟩) rfl _ _ rfl b (k * 8) _ HK.out _ Try.underlying42 rfl infoC8 ?_ ?_); (focus rfl))
            | (go_at_call 68; refine (surdNorm_any _ _).mono ?_; rintro e w' ⟨rfl, hb⟩; obtain ⟨os, d, rfl⟩ := more_of_below hb; clear hb)
            | (go_at_call 69; refine (surdAdd_any (sqS xs k) x.nmR _).mono ?_; rintro e w' ⟨rfl, hb⟩; obtain ⟨os, d, rfl⟩ := more_of_below hb; clear hb))
        go_returns
        exact ⟨by rw [HO.out.1, HO.out.2]; try rfl, by repeat' (first | (with_reducible exact Below.refl _ _) | (with_reducible assumption) | (with_reducible refine Below.alloc ?_ ?_ _) | (with_reducible refine below_more ?_ ?_ _ _) | (with_reducible refine below_rd ?_ ?_ _ _) | (with_reducible refine Below.drew ?_) | (with_reducible refine Below.setCell ?_ ?_ _) | go_size)⟩
    · obtain rfl : k = xs.length := by omega
      have hyes : rsOk xs = true := by rw [rsOk, hv, hg.out]; rfl
      have HO := Lib.hid (And.intro hyes (show rsR xs = sqS xs xs.length by simp [rsR, hyes]))
      clear hyes
      go_wp2
      go_returns
      exact ⟨by rw [HO.out.1, HO.out.2]; try rfl, by repeat' (first | (with_reducible exact Below.refl _ _) | (with_reducible assumption) | (with_reducible refine Below.alloc ?_ ?_ _) | (with_reducible refine below_more ?_ ?_ _ _) | (with_reducible refine below_rd ?_ ?_ _ _) | (with_reducible refine Below.drew ?_) | (with_reducible refine Below.setCell ?_ ?_ _) | go_size)⟩
theorem rowSquares_no (a : Option Addr) (cap : Nat) (xs : List C8) (w : World) (h : HasP w a xs) (hn : xs.length ≤ 1048576) (hv : rvOk xs = false) :
    Calls Try.prog 38 #[.slice a xs.length cap] w fun e w' => e = .returned (.tuple #[sv 0 0 0 0, .bool false]) ∧ Below w.heap.size w w' := by
  have HW := Lib.hid h
  clear h
  go_enter Try.func38, Try.ntmps38
  go_wp2_with fail
  (go_at_call 47; refine (rowValid_any _ _ _ _ (HW.out.alloc _) hn).mono ?_; rintro e w' ⟨rfl, hb⟩; obtain ⟨os0, d0, rfl⟩ := more_of_below hb; clear hb)
  go_wp2
  go_returns
  exact ⟨rfl, by repeat' (first | (with_reducible exact Below.refl _ _) | (with_reducible assumption) | (with_reducible refine Below.alloc ?_ ?_ _) | (with_reducible refine below_more ?_ ?_ _ _) | (with_reducible refine below_rd ?_ ?_ _ _) | (with_reducible refine Below.drew ?_) | (with_reducible refine Below.setCell ?_ ?_ _) | go_size)⟩
theorem rowSquares_any (a : Option Addr) (cap : Nat) (xs : List C8) (w : World) (h : HasP w a xs) (hn : xs.length ≤ 1048576) :
    Calls Try.prog 38 #[.slice a xs.length cap] w fun e w' => e = .returned (.tuple #[sS (rsR xs), .bool (rsOk xs)]) ∧ Below w.heap.size w w' := by
  rcases Bool.eq_false_or_eq_true (rvOk xs) with hv | hv
  · rcases h with rfl | ⟨b, rfl, hb, hp⟩
    · exact absurd hv (by decide)
    · exact rowSquares_some b cap xs w hb hp hn hv
  · have e : rsOk xs = false := by rw [rsOk, hv]; rfl
    rw [e, show rsR xs = S4.zero by simp [rsR, e]]
    exact rowSquares_no a cap xs w h hn hv

set_option maxRecDepth 100000 in
set_option maxHeartbeats 2000000 in
theorem specRowSquares_some (b cap : Nat) (xs : List C8) (w : World) (hb : b < w.heap.size) (hp : ∀ i, i < xs.length → PtAt w b (i * 8) (xs.getD i C8.zero)) (hn : xs.length ≤ 1048576) (hv : rvOk xs = true) :
    Calls Try.prog 37 #[.slice (some ⟨b, 0, none⟩) xs.length cap] w fun e w' => e = .returned (.tuple #[sS (rsR xs), .bool (rsOk xs)]) ∧ Below w.heap.size w w' := by
  have HW := Lib.hid (show HasP w (some ⟨b, 0, none⟩) xs from Or.inr ⟨b, rfl, hb, hp⟩)
  have HP := Lib.hid hp
  clear hp
  go_enter Try.func37, Try.ntmps37
  go_wp2_with fail
  (go_at_call 55; refine (specRowValid_any _ _ _ _ ((HW.out.alloc _).alloc _) hn).mono ?_; rintro e w' ⟨rfl, hb⟩; obtain ⟨os0, d0, rfl⟩ := more_of_below hb; clear hb)
  go_wp2_with fail
  go_loopw [5] (fun s wr => ∃ k : Nat, k ≤ xs.length ∧ s = .int .i64 k ∧ Hid (sqG xs k = true) ∧ ∃ os d, wr = more ((w.alloc (.cells #[.int .i64 0, .int .i64 0, .int .i64 0, .int .i64 0] 47)).alloc (.cells #[.int .i64 (sqS xs k).a, .int .i64 (sqS xs k).b, .int .i64 (sqS xs k).c, .int .i64 (sqS xs k).d] 47)) os d) (fun s _ => xs.length - (intOf s).toNat)
  case atStart => exact ⟨0, by omega, rfl, rfl, _, _, rfl⟩
  case round =>
    obtain ⟨k, hk, rfl, hg, os, d, rfl⟩ := hrel
    by_cases hlt : k < xs.length
    · have hpk : PtAt (more ((w.alloc (.cells #[.int .i64 0, .int .i64 0, .int .i64 0, .int .i64 0] 47)).alloc (.cells #[.int .i64 (sqS xs k).a, .int .i64 (sqS xs k).b, .int .i64 (sqS xs k).c, .int .i64 (sqS xs k).d] 47)) os d) b (k * 8) (xs.getD k C8.zero) := (((HP.out k hlt).alloc _).alloc _).more (by simp; omega) os d
      obtain ⟨x, hxk⟩ : ∃ x, xs.getD k C8.zero = x := ⟨_, rfl⟩
      rw [hxk] at hpk
      have HX := Lib.hid hxk
      have HK := Lib.hid hpk
      clear hpk hxk
      rcases Bool.eq_false_or_eq_true (nmOk x) with h1 | h1
      · have e1 : x.nmR = x.nrm := by rw [C8.nmR, if_pos h1]
        rcases Bool.eq_false_or_eq_true (saOk (sqS xs k) x.nrm) with h2 | h2
        · have e2 : saR (sqS xs k) x.nrm = sqS xs (k + 1) := by rw [saR, if_pos h2, ← HX.out]; rfl
          have hg2 : sqG xs (k + 1) = true := by show (sqG xs k && nmOk _ && saOk _ _) = true; rw [HX.out, hg.out, h1, h2]; rfl
          have HG2 := Lib.hid hg2
          clear hg2
          go_wp2_with (first
            | ((with_reducible refine wpList_load_pt (op := ⟨some 25, .load 42 (.tmp 24), _, _, _, _⟩) rfl _ _ rfl b (k * 8) _ HK.out _ Try.underlying42 rfl infoC8 ?_ ?_); (focus rfl))
            | (go_at_call 66; refine (specSurdNorm_any _ _).mono ?_; rintro e w' ⟨rfl, hb⟩; obtain ⟨os, d, rfl⟩ := more_of_below hb; clear hb)
            | (go_at_call 67; refine (specSurdAdd_any (sqS xs k) x.nrm _).mono ?_; rintro e w' ⟨rfl, hb⟩; obtain ⟨os, d, rfl⟩ := more_of_below hb; clear hb))
          go_roundw
          case rel => exact ⟨k + 1, by omega, by go_num, HG2, (by repeat' (first | (with_reducible exact IsMore.refl _) | (with_reducible refine IsMore.alloc ?_ _) | (with_reducible refine IsMore.more ?_ _ _) | (with_reducible refine IsMore.drew ?_)) : IsMore _ _)⟩
          case measure => simp [intOf]; omega
        · have hno : rsOk xs = false := by
            have : sqG xs (k + 1) = false := by show (sqG xs k && nmOk _ && saOk _ _) = false; rw [HX.out, hg.out, h1, h2]; rfl
            rw [rsOk, sqG_no this _ (by omega), Bool.and_false]
          have HO := Lib.hid (And.intro hno (show rsR xs = S4.zero by simp [rsR, hno]))
          clear hno
          go_wp2_with (first
            | ((with_reducible refine wpList_load_pt (op := ⟨some 25, .load 42 (.tmp 24), _, _, _, _⟩) rfl _ _ rfl b (k * 8) _ HK.out _ Try.underlying42 rfl infoC8 ?_ ?_); (focus rfl))
            | (go_at_call 66; refine (specSurdNorm_any _ _).mono ?_; rintro e w' ⟨rfl, hb⟩; obtain ⟨os, d, rfl⟩ := more_of_below hb; clear hb)
            | (go_at_call 67; refine (specSurdAdd_any (sqS xs k) x.nrm _).mono ?_; rintro e w' ⟨rfl, hb⟩; obtain ⟨os, d, rfl⟩ := more_of_below hb; clear hb))
          go_returns
          exact ⟨by rw [HO.out.1, HO.out.2]; try rfl, by repeat' (first | (with_reducible exact Below.refl _ _) | (with_reducible assumption) | (with_reducible refine Below.alloc ?_ ?_ _) | (with_reducible refine below_more ?_ ?_ _ _) | (with_reducible refine below_rd ?_ ?_ _ _) | (with_reducible refine Below.drew ?_) | (with_reducible refine Below.setCell ?_ ?_ _) | go_size)⟩
      · have hno : rsOk xs = false := by
          have : sqG xs (k + 1) = false := by show (sqG xs k && nmOk _ && saOk _ _) = false; rw [HX.out, hg.out, h1]; rfl
          rw [rsOk, sqG_no this _ (by omega), Bool.and_false]
        have HO := Lib.hid (And.intro hno (show rsR xs = S4.zero by simp [rsR, hno]))
        clear hno
        go_wp2_with (first
            | ((with_reducible refine wpList_load_pt (op := ⟨some 25, .load 42 (.tmp 24), _, _, _, _⟩) rfl _ _ rfl b (k * 8) _ HK.out _ Try.underlying42 rfl infoC8 ?_ ?_); (focus rfl))
            | (go_at_call 66; refine (specSurdNorm_any _ _).mono ?_; rintro e w' ⟨rfl, hb⟩; obtain ⟨os, d, rfl⟩ := more_of_below hb; clear hb)
            | (go_at_call 67; refine (specSurdAdd_any (sqS xs k) x.nmR _).mono ?_; rintro e w' ⟨rfl, hb⟩; obtain ⟨os, d, rfl⟩ := more_of_below hb; clear hb))
        go_returns
        exact ⟨by rw [HO.out.1, HO.out.2]; try rfl, by repeat' (first | (with_reducible exact Below.refl _ _) | (with_reducible assumption) | (with_reducible refine Below.alloc ?_ ?_ _) | (with_reducible refine below_more ?_ ?_ _ _) | (with_reducible refine below_rd ?_ ?_ _ _) | (with_reducible refine Below.drew ?_) | (with_reducible refine Below.setCell ?_ ?_ _) | go_size)⟩
    · obtain rfl : k = xs.length := by omega
      have hyes : rsOk xs = true := by rw [rsOk, hv, hg.out]; rfl
      have HO := Lib.hid (And.intro hyes (show rsR xs = sqS xs xs.length by simp [rsR, hyes]))
      clear hyes
      go_wp2
      go_returns
      exact ⟨by rw [HO.out.1, HO.out.2]; try rfl, by repeat' (first | (with_reducible exact Below.refl _ _) | (with_reducible assumption) | (with_reducible refine Below.alloc ?_ ?_ _) | (with_reducible refine below_more ?_ ?_ _ _) | (with_reducible refine below_rd ?_ ?_ _ _) | (with_reducible refine Below.drew ?_) | (with_reducible refine Below.setCell ?_ ?_ _) | go_size)⟩
theorem specRowSquares_no (a : Option Addr) (cap : Nat) (xs : List C8) (w : World) (h : HasP w a xs) (hn : xs.length ≤ 1048576) (hv : rvOk xs = false) :
    Calls Try.prog 37 #[.slice a xs.length cap] w fun e w' => e = .returned (.tuple #[sv 0 0 0 0, .bool false]) ∧ Below w.heap.size w w' := by
  have HW := Lib.hid h
  clear h
  go_enter Try.func37, Try.ntmps37
  go_wp2_with fail
  (go_at_call 55; refine (specRowValid_any _ _ _ _ ((HW.out.alloc _).alloc _) hn).mono ?_; rintro e w' ⟨rfl, hb⟩; obtain ⟨os0, d0, rfl⟩ := more_of_below hb; clear hb)
  go_wp2
  go_returns
  exact ⟨rfl, by repeat' (first | (with_reducible exact Below.refl _ _) | (with_reducible assumption) | (with_reducible refine Below.alloc ?_ ?_ _) | (with_reducible refine below_more ?_ ?_ _ _) | (with_reducible refine below_rd ?_ ?_ _ _) | (with_reducible refine Below.drew ?_) | (with_reducible refine Below.setCell ?_ ?_ _) | go_size)⟩
theorem specRowSquares_any (a : Option Addr) (cap : Nat) (xs : List C8) (w : World) (h : HasP w a xs) (hn : xs.length ≤ 1048576) :
    Calls Try.prog 37 #[.slice a xs.length cap] w fun e w' => e = .returned (.tuple #[sS (rsR xs), .bool (rsOk xs)]) ∧ Below w.heap.size w w' := by
  rcases Bool.eq_false_or_eq_true (rvOk xs) with hv | hv
  · rcases h with rfl | ⟨b, rfl, hb, hp⟩
    · exact absurd hv (by decide)
    · exact specRowSquares_some b cap xs w hb hp hn hv
  · have e : rsOk xs = false := by rw [rsOk, hv]; rfl
    rw [e, show rsR xs = S4.zero by simp [rsR, e]]
    exact specRowSquares_no a cap xs w h hn hv
end Go.Proofs.Ytelgbmebjickeaa
