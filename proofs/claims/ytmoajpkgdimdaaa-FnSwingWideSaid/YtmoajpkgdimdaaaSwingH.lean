/- The reference's SwingLost: the first number that the wide one does not meet. Swings: plain laws on the first number that is 0, that has a small part. -/
import Derived.Test.YtmoajpkgdimdaaaWrkR
import Derived.Test.YtmoajpkgdimdaaaSwingG
section -- a part
namespace Go.Proofs.Ytmoajpkgdimdaaa
open Go.RowKit

set_option maxRecDepth 100000 in
set_option maxHeartbeats 4000000 in
theorem specFirstLost_yes (z : Z2) (t s : Nat) (hz : FinZ z) (ht : t ≤ 3) (hs : s ≤ 4) (hok : swOk z.1 z.2 t s = true) (w : World) :
    Calls Try.prog 31 #[swv z.1 z.2 t s, .int .i64 2] w fun e w' => e = .returned (.tuple #[.int .i64 (fsF (difB t s z) 401 0), .bool true]) ∧ Below w.heap.size w w' := by
  have r0 := fun w => run_to128 w hz.1.nn hz.2.nn
  have HZ := Lib.hid hz
  clear hz
  go_enter Try.func31, Try.ntmps31
  go_wp2_with (go_at_call 18; refine (specSwingValid_any _ _ _ _ HZ.out.1.1 HZ.out.2.1 _).mono ?_; rintro e w' ⟨rfl, hb⟩; obtain ⟨os, d, rfl⟩ := more_of_below hb; clear hb)
  obtain ⟨w0, rfl⟩ : ∃ w0 : World, w0 = w := ⟨_, rfl⟩
  go_loopw [6, 7, 8] (fun a b i wr => ∃ k : Nat, k ≤ 401 ∧ i = .int .i64 k ∧ a = .complex .f32 (nmZ t s z k).1 (nmZ t s z k).2 ∧ b = .complex .f64 (nmW t s (toW z) k).1 (nmW t s (toW z) k).2 ∧ Hid (fsF (difB t s z) 401 0 = fsF (difB t s z) (401 - k) k) ∧ ∃ os d, wr = more (w0.alloc (.cells #[.complex .f32 z.1 z.2, .int .i64 t, .int .i64 s] 25)) os d) (fun _ _ i _ => 401 - (intOf i).toNat)
  case atStart => exact ⟨0, by omega, rfl, rfl, rfl, rfl, _, _, rfl⟩
  case round =>
    obtain ⟨k, hk, rfl, rfl, rfl, hF, os, d, rfl⟩ := hrel
    by_cases hlt : k ≤ 400
    · have hm : 401 - k = (401 - (k + 1)) + 1 := by omega
      have HFz := Lib.hid (nmZ_fin (t := t) (s := s) HZ.out k)
      have HFw := Lib.hid (nmW_nn (t := t) (s := s) (toW_nn HZ.out) k)
      have r1 := fun w => run_to128 w HFz.out.1.nn HFz.out.2.nn
      rcases Bool.eq_false_or_eq_true (difB t s z k) with hp | hp
      · have HF := Lib.hid (hF.out.trans ((congrArg (fun m => fsF (difB t s z) m k) hm).trans (fsF_yes hp)))
        clear hF
        have hp' := hp
        simp only [difB] at hp'
        go_wp2
        go_returns
        exact ⟨by rw [HF.out]; rfl, by repeat' (first | (with_reducible exact Below.refl _ _) | (with_reducible assumption) | (with_reducible refine Below.alloc ?_ ?_ _) | (with_reducible refine below_more ?_ ?_ _ _) | (with_reducible refine below_rd ?_ ?_ _ _) | (with_reducible refine Below.drew ?_) | (with_reducible refine Below.setCell ?_ ?_ _) | go_size)⟩
      · have HF := Lib.hid (hF.out.trans ((congrArg (fun m => fsF (difB t s z) m k) hm).trans (fsF_no hp)))
        clear hF
        have hp' := hp
        simp only [difB] at hp'
        go_wp2_with (first
          | (go_at_call 58; refine (l11Single_any _ _ t s (nmZ t s z k) HFz.out ht hs _).mono ?_; rintro e w' ⟨rfl, hb⟩; obtain ⟨os, d, rfl⟩ := more_of_below hb; clear hb)
          | (go_at_call 20; refine (l11Wide_any _ _ t s (nmW t s (toW z) k) HFw.out ht hs _).mono ?_; rintro e w' ⟨rfl, hb⟩; obtain ⟨os, d, rfl⟩ := more_of_below hb; clear hb))
        go_roundw
        case rel => exact ⟨k + 1, by omega, by go_num, rfl, rfl, HF, _, _, rfl⟩
        case measure => simp [intOf]; omega
    · obtain rfl : k = 401 := by omega
      have HF := Lib.hid (show fsF (difB t s z) 401 0 = -1 from hF.out)
      clear hF
      go_wp2
      go_returns
      exact ⟨by rw [HF.out]; rfl, by repeat' (first | (with_reducible exact Below.refl _ _) | (with_reducible assumption) | (with_reducible refine Below.alloc ?_ ?_ _) | (with_reducible refine below_more ?_ ?_ _ _) | (with_reducible refine below_rd ?_ ?_ _ _) | (with_reducible refine Below.drew ?_) | (with_reducible refine Below.setCell ?_ ?_ _) | go_size)⟩
/-- What SwingLost gives. -/
def losV (z : Z2) (t s : Int) : Int := if swOk z.1 z.2 t s = true then fsF (difB t.toNat s.toNat z) 401 0 else 0
set_option maxRecDepth 100000 in
set_option maxHeartbeats 1000000 in
theorem specFirstLost_any (z : Z2) (t s : Int) (h1 : z.1 < 4294967296) (h2 : z.2 < 4294967296) (w : World) :
    Calls Try.prog 31 #[swv z.1 z.2 t s, .int .i64 2] w fun e w' => e = .returned (.tuple #[.int .i64 (losV z t s), .bool (swOk z.1 z.2 t s)]) ∧ Below w.heap.size w w' := by
  rcases Bool.eq_false_or_eq_true (swOk z.1 z.2 t s) with hv | hv
  · obtain ⟨hz, t', s', rfl, rfl, ht, hs⟩ := swOk_get h1 h2 hv
    rw [hv, show losV z (t' : Int) (s' : Int) = fsF (difB t' s' z) 401 0 by rw [losV, if_pos hv]; rfl]
    exact specFirstLost_yes z t' s' hz ht hs hv w
  · have HO := Lib.hid (show losV z t s = 0 by rw [losV, hv]; rfl)
    go_enter Try.func31, Try.ntmps31
    go_wp2_with (go_at_call 18; refine (specSwingValid_any _ _ _ _ h1 h2 _).mono ?_; rintro e w' ⟨rfl, hb⟩; obtain ⟨os, d, rfl⟩ := more_of_below hb; clear hb)
    go_returns
    exact ⟨by rw [HO.out, hv]; rfl, by repeat' (first | (with_reducible exact Below.refl _ _) | (with_reducible assumption) | (with_reducible refine Below.alloc ?_ ?_ _) | (with_reducible refine below_more ?_ ?_ _ _) | (with_reducible refine below_rd ?_ ?_ _ _) | (with_reducible refine Below.drew ?_) | (with_reducible refine Below.setCell ?_ ?_ _) | go_size)⟩
set_option maxRecDepth 100000 in
set_option maxHeartbeats 1000000 in
theorem specSwingLost_any (z : Z2) (t s : Int) (h1 : z.1 < 4294967296) (h2 : z.2 < 4294967296) (w : World) :
    Calls Try.prog 12 #[swv z.1 z.2 t s] w fun e w' => e = .returned (.tuple #[.int .i64 (losV z t s), .bool (swOk z.1 z.2 t s)]) ∧ Below w.heap.size w w' := by
  go_enter Try.func12, Try.ntmps12
  go_wp2_with (go_at_call 31; refine (specFirstLost_any z t s h1 h2 _).mono ?_; rintro e w' ⟨rfl, hb⟩; obtain ⟨os, d, rfl⟩ := more_of_below hb; clear hb)
  go_returns
  exact ⟨rfl, by repeat' (first | (with_reducible exact Below.refl _ _) | (with_reducible assumption) | (with_reducible refine Below.alloc ?_ ?_ _) | (with_reducible refine below_more ?_ ?_ _ _) | (with_reducible refine below_rd ?_ ?_ _ _) | (with_reducible refine Below.drew ?_) | (with_reducible refine Below.setCell ?_ ?_ _) | go_size)⟩
/-- What the crew finds. -/
theorem lostAt_fsF (t s : Nat) (z : Z2) : ∀ m k, (lostAt t s z k < 0 → lostAt t s z k = -1) ∧ (lostAt t s z (k + m) = if lostAt t s z k < 0 then fsF (difB t s z) m k else lostAt t s z k)
  | 0, k => by
    have : lostAt t s z k < 0 → lostAt t s z k = -1 := by
      induction k with
      | zero => intro _; rfl
      | succ k ih =>
        intro h
        simp only [lostAt] at h ⊢
        split at h
        · omega
        · rename_i hc; rw [if_neg hc]; exact ih h
    refine ⟨this, ?_⟩
    split
    · rename_i h; exact this h
    · rfl
  | m + 1, k => by
    obtain ⟨h1, h2⟩ := lostAt_fsF t s z m (k + 1)
    have h0 := (lostAt_fsF t s z 0 k).1
    refine ⟨h0, ?_⟩
    rw [show k + (m + 1) = k + 1 + m by omega, h2]
    simp only [lostAt]
    by_cases hd : difB t s z k = true
    · rw [fsF_yes hd]
      by_cases hl : lostAt t s z k < 0
      · rw [if_pos hl]; simp [hd, hl]; intro h; omega
      · rw [if_neg hl]; simp [hd, hl]
    · have hd' : difB t s z k = false := by simpa using hd
      rw [fsF_no hd']
      simp [hd']
theorem lostAt_all (t s : Nat) (z : Z2) : lostAt t s z 401 = fsF (difB t s z) 401 0 := by
  have h := (lostAt_fsF t s z 401 0).2
  rw [Nat.zero_add] at h
  rw [h, if_pos (by show (-1 : Int) < 0; decide)]
end Go.Proofs.Ytmoajpkgdimdaaa
end
section -- a part
namespace Go.Proofs.Ytmoajpkgdimdaaa
open Go.RowKit

theorem fsF_cases (P : Nat → Bool) : ∀ m k, (fsF P m k = -1 ∧ ∀ j, k ≤ j → j < k + m → P j = false) ∨ ∃ i, k ≤ i ∧ i < k + m ∧ fsF P m k = (i : Int) ∧ P i = true ∧ ∀ j, k ≤ j → j < i → P j = false
  | 0, k => Or.inl ⟨rfl, fun j h1 h2 => by omega⟩
  | m + 1, k => by
    rcases Bool.eq_false_or_eq_true (P k) with h | h
    · exact Or.inr ⟨k, by omega, by omega, fsF_yes h, h, fun j h1 h2 => by omega⟩
    · rw [fsF_no h]
      rcases fsF_cases P m (k + 1) with ⟨h1, h2⟩ | ⟨i, h1, h2, h3, h4, h5⟩
      · exact Or.inl ⟨h1, fun j h3 h4 => by
          by_cases e : j = k
          · rw [e]; exact h
          · exact h2 j (by omega) (by omega)⟩
      · exact Or.inr ⟨i, by omega, by omega, h3, h4, fun j h6 h7 => by
          by_cases e : j = k
          · rw [e]; exact h
          · exact h5 j (by omega) (by omega)⟩
def Zz (z : Z2) : Prop := z.1 % 2147483648 = 0 ∧ z.2 % 2147483648 = 0
theorem zeroB_iff {x : Nat} (h : Fin32 x) : zeroB x = true ↔ x % 2147483648 = 0 := by unfold zeroB; rw [order_zero h]; simp
theorem pZero_iff {z : Z2} (h : FinZ z) : pZero z = true ↔ Zz z := by
  unfold pZero Zz; rw [Bool.and_eq_true, zeroB_iff h.1, zeroB_iff h.2]
theorem tuZ_zz {z : Z2} (h : Zz z) : Zz (tuZ z) := ⟨by unfold tuZ neg0; rw [if_pos h.2]; rfl, h.1⟩
theorem haZ_zz {z : Z2} (hf : FinZ z) (h : Zz z) : Zz (haZ z) := ⟨(half_some hf.1).2.2 h.1, (half_some hf.2).2.2 h.2⟩
theorem itr_zz {f : Z2 → Z2} (hf : ∀ z, FinZ z → FinZ (f z)) (hz : ∀ z, FinZ z → Zz z → Zz (f z)) {z : Z2} (h : FinZ z) (h2 : Zz z) : ∀ k, Zz (itr f k z)
  | 0 => h2
  | k + 1 => hz _ (itr_fin hf h k) (itr_zz hf hz h h2 k)
theorem stZ_zz {t s : Nat} {z : Z2} (h : FinZ z) (h2 : Zz z) : Zz (stZ t s z) :=
  itr_zz (fun _ => haZ_fin) (fun _ => haZ_zz) (itr_fin (fun _ => tuZ_fin) h t) (itr_zz (fun _ => tuZ_fin) (fun _ _ => tuZ_zz) h h2 t) s
theorem nmZ_zz {t s : Nat} {z : Z2} (h : FinZ z) {k : Nat} (h2 : Zz (nmZ t s z k)) : ∀ j, Zz (nmZ t s z (k + j))
  | 0 => h2
  | j + 1 => stZ_zz (nmZ_fin h (k + j)) (nmZ_zz h h2 j)
theorem zeroB_eq {x : Nat} (h : zeroB x = true) : FloatKind.f32.format.order x 0 = some .eq := by simpa [zeroB] using h
theorem saZ_nat {x y t s k : Nat} (hok : swOk x y t s = true) (hk : k ≤ 400) : saOk (x, y) (t : Int) (s : Int) (k : Int) = true ∧ saZ (x, y) (t : Int) (s : Int) (k : Int) = nmZ t s (x, y) k := by
  have e : saOk (x, y) (t : Int) (s : Int) (k : Int) = true := by rw [saOk, Bool.and_eq_true]; exact ⟨hok, inB_iff.2 ⟨by omega, by omega⟩⟩
  exact ⟨e, by rw [saZ, if_pos e]; rfl⟩
/-- What the law of rest asks. -/
theorem rest_facts {x y : Nat} {t s : Int} (hx : x < 4294967296) (hy : y < 4294967296) (h : swOk x y t s = true) :
    frV pZero (x, y) t s = -1 ∨ ∃ k : Nat, k ≤ 400 ∧ frV pZero (x, y) t s = (k : Int) ∧ saOk (x, y) t s k = true ∧ saOk (x, y) t s 400 = true ∧
      pZero (saZ (x, y) t s k) = true ∧ pZero (saZ (x, y) t s 400) = true ∧ (k = 0 ∧ saOk (x, y) t s ((k : Int) - 1) = false ∨ saOk (x, y) t s ((k : Int) - 1) = true ∧ pZero (saZ (x, y) t s ((k : Int) - 1)) = false) := by
  obtain ⟨hz, t', s', rfl, rfl, ht, hs⟩ := swOk_get (z := (x, y)) hx hy h
  have hfr : frV pZero (x, y) (t' : Int) (s' : Int) = fsF (fun k => pZero (nmZ t' s' (x, y) k)) 401 0 := by rw [frV, if_pos h]; rfl
  rw [hfr]
  rcases fsF_cases (fun k => pZero (nmZ t' s' (x, y) k)) 401 0 with ⟨h1, -⟩ | ⟨k, -, h2, h3, h4, h5⟩
  · exact Or.inl h1
  · right
    have hk : k ≤ 400 := by omega
    have a1 := saZ_nat (k := k) h hk
    have a2 := saZ_nat (k := 400) h (Nat.le_refl _)
    have hzk := (pZero_iff (nmZ_fin hz k)).1 h4
    have hz4 := nmZ_zz hz hzk (400 - k)
    rw [show k + (400 - k) = 400 by omega] at hz4
    refine ⟨k, hk, h3, a1.1, a2.1, ?_, ?_, ?_⟩
    · rw [a1.2]; exact h4
    · rw [show ((400 : Int)) = ((400 : Nat) : Int) from rfl, a2.2]; exact (pZero_iff (nmZ_fin hz 400)).2 hz4
    · rcases Nat.eq_zero_or_pos k with h0 | h0
      · left
        refine ⟨h0, ?_⟩
        rw [saOk, h0]
        simp [inB]
      · right
        have a3 := saZ_nat (k := k - 1) h (by omega)
        rw [show ((k - 1 : Nat) : Int) = (k : Int) - 1 by omega] at a3
        exact ⟨a3.1, by rw [a3.2]; exact h5 (k - 1) (by omega) (by omega)⟩
/-- What the law of small parts asks. -/
theorem small_facts {x y : Nat} {t s : Int} (hx : x < 4294967296) (hy : y < 4294967296) (h : swOk x y t s = true) :
    frV pTiny (x, y) t s = -1 ∨ ∃ k : Nat, k ≤ 400 ∧ frV pTiny (x, y) t s = (k : Int) ∧ saOk (x, y) t s k = true ∧ pTiny (saZ (x, y) t s k) = true ∧
      (frV pZero (x, y) t s = -1 ∨ ∃ r : Nat, frV pZero (x, y) t s = (r : Int) ∧ k < r ∧ r ≤ 400) := by
  obtain ⟨hz, t', s', rfl, rfl, ht, hs⟩ := swOk_get (z := (x, y)) hx hy h
  have hfr : frV pZero (x, y) (t' : Int) (s' : Int) = fsF (fun k => pZero (nmZ t' s' (x, y) k)) 401 0 := by rw [frV, if_pos h]; rfl
  have hft : frV pTiny (x, y) (t' : Int) (s' : Int) = fsF (fun k => pTiny (nmZ t' s' (x, y) k)) 401 0 := by rw [frV, if_pos h]; rfl
  rw [hfr, hft]
  rcases fsF_cases (fun k => pTiny (nmZ t' s' (x, y) k)) 401 0 with ⟨h1, -⟩ | ⟨k, -, h2, h3, h4, -⟩
  · exact Or.inl h1
  · right
    have hk : k ≤ 400 := by omega
    have a1 := saZ_nat (k := k) h hk
    refine ⟨k, hk, h3, a1.1, by rw [a1.2]; exact h4, ?_⟩
    rcases fsF_cases (fun k => pZero (nmZ t' s' (x, y) k)) 401 0 with ⟨h5, -⟩ | ⟨r, -, h6, h7, h8, -⟩
    · exact Or.inl h5
    · right
      refine ⟨r, h7, ?_, by omega⟩
      rcases Nat.lt_or_ge k r with hlt | hge
      · exact hlt
      · exfalso
        have hz4 := nmZ_zz hz ((pZero_iff (nmZ_fin hz r)).1 h8) (k - r)
        rw [show r + (k - r) = k by omega] at hz4
        have hp := (pZero_iff (nmZ_fin hz k)).2 hz4
        simp only [pZero, Bool.and_eq_true] at hp
        have e1 := zeroB_eq hp.1
        have e2 := zeroB_eq hp.2
        simp [pTiny, tinyB, neB, e1, e2] at h4
end Go.Proofs.Ytmoajpkgdimdaaa
end
