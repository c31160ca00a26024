/- What stands behind FnLost: where the narrow and the wide numbers part, a subnormal is near. -/
import Derived.Test.YtmoajpkgdimdaaaSwingH
import Derived.Test.YtmoajpkgdimdaaaLostF
set_option linter.unusedVariables false
namespace Go.Proofs.Ytmoajpkgdimdaaa

/-- The same number in both widths; n halvings behind the start. -/
def RelC (n x y : Nat) : Prop := (x < 4294967296 ∧ x % 2147483648 = 0 ∧ y % 9223372036854775808 = 0) ∨ ∃ s m k, Nrm m k ∧ k + n ≤ 253 ∧ x = W32 s m k ∧ y = W64 s m k
def RelZ (n : Nat) (z w : Z2) : Prop := RelC n z.1 w.1 ∧ RelC n z.2 w.2
/-- Fallen among the subnormals, or at their upper end. -/
def Fl (a x : Nat) : Prop := Fin32 x ∧ a ≤ x % 2147483648 ∧ x % 2147483648 ≤ 8388608
def Fs (a x : Nat) : Prop := Fin32 x ∧ a ≤ x % 2147483648 ∧ x % 2147483648 < 8388608
section
variable {n r a x y t s : Nat} {z w : Z2}
theorem neg0_mag (h : Fin32 x) : neg0 x % 2147483648 = x % 2147483648 := by
  have := h.1
  unfold neg0
  split
  · omega
  · split <;> omega
theorem Fl.neg (h : Fl a x) : Fl a (neg0 x) := ⟨neg0_fin h.1, by rw [neg0_mag h.1]; exact h.2.1, by rw [neg0_mag h.1]; exact h.2.2⟩
theorem Fl.half (h : Fl (2 * a) x) : Fs a (half x) := by
  obtain ⟨h1, h2, h3⟩ := h
  have := half_low h1 (by omega)
  exact ⟨(half_some h1).2.1, by omega, by omega⟩
theorem Fs.fl (h : Fs a x) : Fl a x := ⟨h.1, h.2.1, by have := h.2.2; omega⟩
theorem Fl.low {b : Nat} (h : Fl a x) (hb : b ≤ a) : Fl b x := ⟨h.1, Nat.le_trans hb h.2.1, h.2.2⟩
theorem RelC.neg (h : RelC n x y) : RelC n (neg0 x) (sub64 y) := by
  rcases h with ⟨h0, h1, h2⟩ | ⟨s, m, k, hn, hk, rfl, rfl⟩
  · left
    unfold neg0
    rw [if_pos h1]
    exact ⟨by omega, by omega, sub64_z h2⟩
  · exact .inr ⟨!s, m, k, hn, hk, neg0_W32 hn, sub64_W hn⟩
theorem RelC.half (h : RelC n x y) : RelC (n + 1) (half x) (half64 y) ∨ (n ≤ 253 ∧ Fl 4194304 (half x)) := by
  rcases h with ⟨h0, h1, h2⟩ | ⟨s, m, k, hn, hk, rfl, rfl⟩
  · have hf : Fin32 x := ⟨h0, by omega⟩
    exact .inl (.inl ⟨(half_some hf).2.1.1, (half_some hf).2.2 h1, half64_z h2⟩)
  · cases k with
    | zero =>
      right
      have hf := W32_fin (s := s) hn
      have hm := (W32_mod (s := s) hn).1
      have a := hn.lo; have b := hn.hi
      have := half_low hf (by omega)
      exact ⟨by omega, (half_some hf).2.1, by omega, by omega⟩
    | succ k => exact .inl (.inr ⟨s, m, k, ⟨hn.lo, hn.hi, by have := hn.k; omega⟩, by omega, half_W32 hn, half64_W hn⟩)
theorem RelZ.turns (h : RelZ n z w) : ∀ t, RelZ n (itr tuZ t z) (itr tuW t w)
  | 0 => h
  | t + 1 => ⟨(RelZ.turns h t).2.neg, (RelZ.turns h t).1⟩
/-- After r halvings. -/
def QC (n r x y : Nat) : Prop := RelC (n + r) x y ∨ (1 ≤ r ∧ n ≤ 253 ∧ Fl (2 ^ (23 - r)) x)
theorem QC.half (h : QC n r x y) (hr : r ≤ 3) : QC n (r + 1) (half x) (half64 y) := by
  have e : (2 : Nat) ^ (23 - r) = 2 * 2 ^ (23 - (r + 1)) := by
    rw [show 23 - r = (23 - (r + 1)) + 1 by omega, Nat.pow_succ, Nat.mul_comm]
  rcases h with h | ⟨h1, h2, h3⟩
  · rcases h.half with h | ⟨h1, h2⟩
    · exact .inl h
    · refine .inr ⟨by omega, by omega, h2.low ?_⟩
      have : (2 : Nat) ^ (23 - (r + 1)) ≤ 2 ^ 22 := Nat.pow_le_pow_right (by omega) (by omega)
      omega
  · rw [e] at h3
    exact .inr ⟨by omega, h2, h3.half.fl⟩
theorem QZ (h : RelZ n z w) : ∀ r, r ≤ 4 → QC n r (itr haZ r z).1 (itr haW r w).1 ∧ QC n r (itr haZ r z).2 (itr haW r w).2
  | 0, _ => ⟨.inl h.1, .inl h.2⟩
  | r + 1, hr => ⟨(QZ h r (by omega)).1.half (by omega), (QZ h r (by omega)).2.half (by omega)⟩
/-- A step. -/
theorem step_rel (h : RelZ n z w) (hs : s ≤ 4) : RelZ (n + s) (stZ t s z) (stW t s w) ∨ (1 ≤ s ∧ n ≤ 253 ∧ (Fl 524288 (stZ t s z).1 ∨ Fl 524288 (stZ t s z).2)) := by
  obtain ⟨q1, q2⟩ := QZ (h.turns t) s hs
  have lo : 524288 ≤ 2 ^ (23 - s) := by
    have : (2 : Nat) ^ 19 ≤ 2 ^ (23 - s) := Nat.pow_le_pow_right (by omega) (by omega)
    omega
  rcases q1 with q1 | ⟨a1, a2, a3⟩
  · rcases q2 with q2 | ⟨a1, a2, a3⟩
    · exact .inl ⟨q1, q2⟩
    · exact .inr ⟨a1, a2, .inr (a3.low lo)⟩
  · exact .inr ⟨a1, a2, .inl (a3.low lo)⟩
theorem fl_turns (h : Fl a z.1 ∨ Fl a z.2) : ∀ t, Fl a (itr tuZ t z).1 ∨ Fl a (itr tuZ t z).2
  | 0 => h
  | t + 1 => (fl_turns h t).elim (fun h => .inr h) (fun h => .inl h.neg)
theorem fs_halves (h : Fl (2 ^ (r + 1)) z.1 ∨ Fl (2 ^ (r + 1)) z.2) : ∀ i, i ≤ r → Fs (2 ^ (r - i)) (itr haZ (i + 1) z).1 ∨ Fs (2 ^ (r - i)) (itr haZ (i + 1) z).2
  | 0, _ => by
    have e : (2 : Nat) ^ (r + 1) = 2 * 2 ^ r := by rw [Nat.pow_succ, Nat.mul_comm]
    rw [e] at h
    exact h.imp Fl.half Fl.half
  | i + 1, hi => by
    have e : (2 : Nat) ^ (r - i) = 2 * 2 ^ (r - (i + 1)) := by rw [show r - i = (r - (i + 1)) + 1 by omega, Nat.pow_succ, Nat.mul_comm]
    have ih := fs_halves h i (by omega)
    rw [e] at ih
    exact ih.imp (fun h => h.fl.half) (fun h => h.fl.half)
/-- Once fallen, the next number has a small part. -/
theorem fall_tiny (h : Fl 524288 z.1 ∨ Fl 524288 z.2) (h1 : 1 ≤ s) (hs : s ≤ 4) : pTiny (stZ t s z) = true := by
  have h2 := fs_halves (r := 18) (fl_turns h t) (s - 1) (by omega)
  rw [show s - 1 + 1 = s by omega] at h2
  have hp := Nat.two_pow_pos (18 - (s - 1))
  unfold pTiny
  rcases h2 with ⟨f1, f2, f3⟩ | ⟨f1, f2, f3⟩
  · have e : tinyB (stZ t s z).1 = true := tiny_of f1 (Nat.lt_of_lt_of_le hp f2) f3
    rw [e]; rfl
  · have e : tinyB (stZ t s z).2 = true := tiny_of f1 (Nat.lt_of_lt_of_le hp f2) f3
    rw [e]; simp
theorem RelC.eq (h : RelC n x y) : (FloatKind.f64.format.order (to64 x) y == some .eq) = true := by
  rcases h with ⟨h0, h1, h2⟩ | ⟨s, m, k, hn, hk, rfl, rfl⟩
  · rw [order_z64 (to64_z h0 h1) h2]; rfl
  · rw [to64_W hn, order_self64 (W64_nn hn)]; rfl
theorem RelZ.same {i : Nat} (h : RelZ n (nmZ t s z i) (nmW t s (toW z) i)) : difB t s z i = false := by
  unfold difB
  rw [h.1.eq, h.2.eq]; rfl
theorem start_rel (h : Fin32 x) : RelC 0 x (to64 x) ∨ tinyB x = true := by
  by_cases h0 : x % 2147483648 = 0
  · exact .inl (.inl ⟨h.1, h0, to64_z h.1 h0⟩)
  · by_cases h1 : x % 2147483648 < 8388608
    · exact .inr (tiny_of h (by omega) h1)
    · obtain ⟨s, m, k, hn, rfl⟩ := is_W32 h (by omega)
      exact .inl (.inr ⟨s, m, k, hn, hn.k, rfl, to64_W hn⟩)
/-- They agree so far, or a subnormal stands at most one behind the first that may part. -/
theorem agree (hz : FinZ z) (hs : s ≤ 4) : ∀ i, i ≤ 400 → (∀ j, j ≤ i → RelZ (s * j) (nmZ t s z j) (nmW t s (toW z) j)) ∨ ∃ i0, i0 ≤ i ∧ ∃ q, q ≤ i0 + 1 ∧ q ≤ 400 ∧ pTiny (nmZ t s z q) = true
  | 0, _ => by
    rcases start_rel hz.1 with h1 | h1
    · rcases start_rel hz.2 with h2 | h2
      · exact .inl fun j hj => by
          obtain rfl : j = 0 := by omega
          exact ⟨h1, h2⟩
      · exact .inr ⟨0, Nat.le_refl _, 0, by omega, by omega, by show pTiny z = true; unfold pTiny; rw [h2]; simp⟩
    · exact .inr ⟨0, Nat.le_refl _, 0, by omega, by omega, by show pTiny z = true; unfold pTiny; rw [h1]; rfl⟩
  | i + 1, hi => by
    rcases agree hz hs i (by omega) with h | ⟨i0, h1, h2⟩
    · have hi' := h i (Nat.le_refl _)
      rcases step_rel (t := t) (s := s) hi' hs with h3 | ⟨h3, h4, h5⟩
      · refine .inl fun j hj => ?_
        by_cases e : j = i + 1
        · subst e
          rw [Nat.mul_succ]
          exact h3
        · exact h j (by omega)
      · have hi253 : i ≤ 253 := by
          have := Nat.mul_le_mul_right i h3
          omega
        exact .inr ⟨i + 1, Nat.le_refl _, i + 2, by omega, by omega, fall_tiny (t := t) (z := nmZ t s z (i + 1)) h5 h3 hs⟩
    · exact .inr ⟨i0, by omega, h2⟩
end
theorem lost_facts {x y : Nat} {t s : Int} (hx : x < 4294967296) (hy : y < 4294967296) (h : swOk x y t s = true) :
    losV (x, y) t s < 0 ∨ (0 ≤ losV (x, y) t s ∧ losV (x, y) t s ≤ 400 ∧ 0 ≤ frV pTiny (x, y) t s ∧ frV pTiny (x, y) t s ≤ losV (x, y) t s + 1) := by
  obtain ⟨hz, t', s', rfl, rfl, ht, hs⟩ := swOk_get (z := (x, y)) hx hy h
  have e1 : losV (x, y) (t' : Int) (s' : Int) = fsF (difB t' s' (x, y)) 401 0 := by rw [losV, if_pos h]; rfl
  have e2 : frV pTiny (x, y) (t' : Int) (s' : Int) = fsF (fun k => pTiny (nmZ t' s' (x, y) k)) 401 0 := by rw [frV, if_pos h]; rfl
  rw [e1, e2]
  rcases fsF_cases (difB t' s' (x, y)) 401 0 with ⟨h1, -⟩ | ⟨d, -, hd, h1, hd1, -⟩
  · left; rw [h1]; decide
  · right
    rw [h1]
    rcases agree (t := t') hz hs d (by omega) with h2 | ⟨i0, hi, q, hq, hq4, hqt⟩
    · have := (h2 d (Nat.le_refl _)).same
      rw [hd1] at this
      cases this
    · rcases fsF_cases (fun k => pTiny (nmZ t' s' (x, y) k)) 401 0 with ⟨-, h3⟩ | ⟨i, -, hi4, h3, -, hi3⟩
      · have := h3 q (by omega) (by omega)
        rw [hqt] at this
        cases this
      · rw [h3]
        have : i ≤ q := by
          apply Nat.le_of_not_lt
          intro hlt
          have := hi3 q (by omega) hlt
          rw [hqt] at this
          cases this
        omega
end Go.Proofs.Ytmoajpkgdimdaaa
