/- Halves and turns of floats of 32 bits beside the same in 64: where they agree, and what stands where they part. -/
import Derived.Test.YtmoajpkgdimdaaaSwingG
set_option linter.unusedVariables false
namespace Go.Proofs.Ytmoajpkgdimdaaa
open Go.RowKit

theorem cut_exact (s : Bool) (M j : Nat) (hM : M ≠ 0) : Ieee.Toward.even.cut s (M * 2 ^ j) j = M := by
  have hl2 := log2_mul_pow hM j
  unfold Ieee.Toward.cut
  have hmin : min j ((M * 2 ^ j).log2 + 2) = j := by rw [hl2]; omega
  have hgap : (1 : Nat) <<< min j ((M * 2 ^ j).log2 + 2) = 2 ^ j := by rw [hmin, shl, Nat.one_mul]
  have hd : M * 2 ^ j / 2 ^ j = M := Nat.mul_div_cancel _ (Nat.two_pow_pos j)
  have hr : M * 2 ^ j % 2 ^ j = 0 := Nat.mul_mod_left _ _
  have hp := Nat.two_pow_pos j
  simp only [hgap, hd, hr, Nat.mul_zero, Nat.not_lt_zero, decide_false, Bool.false_or]
  have hb : (2 ^ j == 0) = false := by rw [beq_eq_false_iff_ne]; omega
  rw [hb]; rfl
theorem cut_ge (s : Bool) (n drop : Nat) (h : drop ≤ n.log2 + 2) : n / 2 ^ drop ≤ Ieee.Toward.even.cut s n drop := by
  unfold Ieee.Toward.cut
  have hmin : min drop (n.log2 + 2) = drop := by omega
  have h1 : (1 : Nat) <<< min drop (n.log2 + 2) = 2 ^ drop := by rw [hmin, shl, Nat.one_mul]
  simp only [h1]
  exact Nat.le_add_right _ _
theorem log2_of {F M : Nat} (h1 : 2 ^ F ≤ M) (h2 : M < 2 ^ (F + 1)) : M.log2 = F := by
  have hne : M ≠ 0 := by have := Nat.two_pow_pos F; omega
  exact (Nat.log2_eq_iff hne).2 ⟨h1, h2⟩
/-- A number that the format has. -/
theorem near_exact (f : Ieee.Format) (s : Bool) (M j : Nat) (place : Int) (h1 : 2 ^ f.fractionBits ≤ M) (h2 : M < 2 ^ (f.fractionBits + 1)) (hp : f.leastPlace ≤ place + j) (hi : (place + j - f.leastPlace).toNat * f.binade + M ≤ f.infRung) :
    f.nearest s (M * 2 ^ j) place = f.word s ((place + j - f.leastPlace).toNat * f.binade + M) := by
  have hne : M ≠ 0 := by have := Nat.two_pow_pos f.fractionBits; omega
  have hmul : M * 2 ^ j ≠ 0 := Nat.mul_ne_zero hne (Nat.ne_of_gt (Nat.two_pow_pos j))
  rw [nearest_defF f s _ place hmul, log2_mul_pow hne, log2_of h1 h2]
  have e0 : max (place + ((f.fractionBits + j : Nat) : Int) - (f.fractionBits : Nat)) f.leastPlace = place + j := by omega
  rw [e0]
  have e1 : (place - (place + (j : Int))).toNat = 0 := by omega
  have e2 : (place + (j : Int) - place).toNat = j := by omega
  rw [e1, e2, Nat.shiftLeft_zero, cut_exact s M j hne, Nat.min_eq_left hi]
def W32 (s : Bool) (m k : Nat) : Nat := Ieee.single.word s (k * 8388608 + m)
def W64 (s : Bool) (m k : Nat) : Nat := Ieee.double.word s ((k + 896) * 4503599627370496 + m * 536870912)
theorem word32_eq (s : Bool) {y : Nat} (h : y < 2147483648) : Ieee.single.word s y = (if s = true then 2147483648 else 0) + y := by
  cases s
  · show y = _; simp
  · show 2147483648 + y = _; simp
theorem word64_eq (s : Bool) {y : Nat} (h : y < 9223372036854775808) : Ieee.double.word s y = (if s = true then 9223372036854775808 else 0) + y := by
  cases s
  · show y = _; simp
  · show 9223372036854775808 + y = _; simp
/-- Normal. -/
structure Nrm (m k : Nat) : Prop where
  lo : 8388608 ≤ m
  hi : m < 16777216
  k : k ≤ 253
section
variable {s : Bool} {m k x y : Nat}
theorem W32_mod (h : Nrm m k) : W32 s m k % 2147483648 = k * 8388608 + m ∧ W32 s m k / 2147483648 % 2 = (if s = true then 1 else 0) := by
  have := h.lo; have := h.hi; have := h.k
  unfold W32
  rw [word32_eq s (by omega)]
  cases s <;> simp <;> omega
theorem W32_fin (h : Nrm m k) : Fin32 (W32 s m k) := by
  have h1 := (W32_mod (s := s) h).1
  have := h.lo; have := h.hi; have := h.k
  refine ⟨?_, by omega⟩
  unfold W32
  rw [word32_eq s (by omega)]
  cases s <;> simp <;> omega
theorem read_W32 (h : Nrm m k) : Ieee.single.read (W32 s m k) = .number s m (-149 + k) := by
  obtain ⟨h1, h2⟩ := W32_mod (s := s) h
  have a := h.lo; have b := h.hi; have c := h.k
  rw [read32, if_neg (by omega), if_pos (by omega), h2, h1]
  have e1 : 8388608 + (k * 8388608 + m) % 8388608 = m := by omega
  have e2 : (k * 8388608 + m) / 8388608 - 1 = k := by omega
  rw [e1, e2]
  cases s <;> rfl
theorem is_W32 (h : Fin32 x) (hx : 8388608 ≤ x % 2147483648) : ∃ s m k, Nrm m k ∧ x = W32 s m k := by
  obtain ⟨hlt, hf⟩ := h
  refine ⟨decide (2147483648 ≤ x), 8388608 + x % 8388608, x % 2147483648 / 8388608 - 1, ⟨by omega, by omega, by omega⟩, ?_⟩
  unfold W32
  rw [word32_eq _ (by omega)]
  by_cases hs : 2147483648 ≤ x
  · simp [hs]; omega
  · simp [hs]; omega
theorem near_single {M j : Nat} {place : Int} (h : Nrm M (place + j + 149).toNat) (hp : -149 ≤ place + j) : Ieee.single.nearest s (M * 2 ^ j) place = W32 s M (place + j + 149).toNat := by
  have h1 := h.lo; have h2 := h.hi; have h3 := h.k
  have e : ((place + (j : Int)) - (-149)).toNat = (place + j + 149).toNat := by omega
  have hn := near_exact Ieee.single s M j place (by show 2 ^ 23 ≤ M; omega) (by show M < 2 ^ 24; omega) (by show (-149 : Int) ≤ _; exact hp) (by show (_ - (-149 : Int)).toNat * 8388608 + M ≤ 2139095040; omega)
  rw [hn]
  show Ieee.single.word s ((_ - (-149 : Int)).toNat * 8388608 + M) = _
  rw [e]
  rfl
theorem near_double {M j : Nat} {place : Int} (h1 : 4503599627370496 ≤ M) (h2 : M < 9007199254740992) (hp : -1074 ≤ place + j) (hk : place + j + 1074 ≤ 2000) : Ieee.double.nearest s (M * 2 ^ j) place = Ieee.double.word s ((place + j + 1074).toNat * 4503599627370496 + M) := by
  have e : ((place + (j : Int)) - (-1074)).toNat = (place + j + 1074).toNat := by omega
  have hn := near_exact Ieee.double s M j place (by rw [dbl_f]; omega) (by rw [dbl_f]; omega) (by rw [dbl_l]; exact hp) (by rw [dbl_l, dbl_b, dbl_i]; omega)
  rw [dbl_l, dbl_b] at hn
  rw [hn, e]
theorem half_def (h : Fin32 x) {sg : Bool} {m k : Nat} (hr : Ieee.single.read x = .number sg m (-149 + k)) (hm0 : m ≠ 0) (hm : m < 16777216) :
    half x = Ieee.single.nearest sg (m * 2 ^ (26 - m.log2)) (-149 + (k : Int) - 27 + (m.log2 : Int)) := by
  have h0 : Ieee.single.read 1073741824 = .number false 8388608 (-22) := by decide +kernel
  have hdiv : Ieee.single.div x 1073741824 = some (Ieee.single.nearest (sg ^^ false) (2 * (m <<< (25 + (8388608 : Nat).log2 - m.log2) / 8388608) + (m <<< (25 + (8388608 : Nat).log2 - m.log2) % 8388608 != 0).toNat) ((-149 + (k : Int)) - (-22) - (25 + (8388608 : Nat).log2 - m.log2 : Nat) - 1)) := by
    unfold Ieee.Format.div
    rw [hr, h0]
    rfl
  have hl23 : (8388608 : Nat).log2 = 23 := by decide +kernel
  have hlog : m.log2 ≤ 23 := by
    have : m < 2 ^ 24 := by omega
    have := (Nat.log2_lt hm0).2 this; omega
  rw [hl23] at hdiv
  have e1 : m <<< (25 + 23 - m.log2) = m * 2 ^ (25 - m.log2) * 8388608 := by
    rw [shl, show 25 + 23 - m.log2 = (25 - m.log2) + 23 by omega, Nat.pow_add, ← Nat.mul_assoc]
  rw [e1, Nat.mul_div_cancel _ (by omega), Nat.mul_mod_left] at hdiv
  have e2 : 2 * (m * 2 ^ (25 - m.log2)) + ((0 : Nat) != 0).toNat = m * 2 ^ (26 - m.log2) := by
    rw [show 26 - m.log2 = (25 - m.log2) + 1 by omega, Nat.pow_succ]
    show 2 * (m * 2 ^ (25 - m.log2)) + 0 = _
    rw [Nat.add_zero, ← Nat.mul_assoc, Nat.mul_comm 2, Nat.mul_assoc]
    rw [Nat.mul_comm _ 2, Nat.mul_left_comm]
  rw [e2, Bool.xor_false] at hdiv
  have e3 : (-149 + (k : Int)) - (-22) - (25 + 23 - m.log2 : Nat) - 1 = -149 + (k : Int) - 27 + (m.log2 : Int) := by omega
  rw [e3] at hdiv
  unfold half
  rw [hdiv]
  rfl
theorem nrm_log (h : Nrm m k) : m.log2 = 23 := log2_of (by have := h.lo; omega) (by have := h.hi; omega)
theorem half_W32 (h : Nrm m (k + 1)) : half (W32 s m (k + 1)) = W32 s m k := by
  have hl := nrm_log h
  have a := h.lo; have b := h.hi; have c := h.k
  rw [half_def (W32_fin h) (read_W32 h) (by omega) h.hi, hl]
  have hn : Nrm m k := ⟨a, b, by omega⟩
  have e : ((-149 + ((k + 1 : Nat) : Int) - 27 + ((23 : Nat) : Int)) + ((26 - 23 : Nat) : Int) + 149).toNat = k := by omega
  rw [near_single (by rw [e]; exact hn) (by omega), e]
theorem neg0_W32 (h : Nrm m k) : neg0 (W32 s m k) = W32 (!s) m k := by
  obtain ⟨h1, h2⟩ := W32_mod (s := s) h
  have a := h.lo; have b := h.hi; have c := h.k
  unfold neg0
  rw [if_neg (by omega)]
  unfold W32
  rw [word32_eq s (by omega), word32_eq (!s) (by omega)]
  have hlt : k * 8388608 + m < 2147483648 := by omega
  cases s
  · simp [hlt]; omega
  · simp; omega
/-! ### 64 bits -/
theorem W64_mod (h : Nrm m k) : W64 s m k % 9223372036854775808 = (k + 896) * 4503599627370496 + m * 536870912 ∧ W64 s m k / 9223372036854775808 % 2 = (if s = true then 1 else 0) ∧ W64 s m k < 18446744073709551616 := by
  have := h.lo; have := h.hi; have := h.k
  unfold W64
  rw [word64_eq s (by omega)]
  cases s <;> simp <;> omega
theorem read_W64 (h : Nrm m k) : Ieee.double.read (W64 s m k) = .number s (m * 536870912) (-1074 + ((k + 896 : Nat) : Int)) := by
  obtain ⟨h1, h2, -⟩ := W64_mod (s := s) h
  have a := h.lo; have b := h.hi; have c := h.k
  rw [read64, if_neg (by omega), if_pos (by omega), h2, h1]
  have e1 : 4503599627370496 + ((k + 896) * 4503599627370496 + m * 536870912) % 4503599627370496 = m * 536870912 := by omega
  have e2 : ((k + 896) * 4503599627370496 + m * 536870912) / 4503599627370496 - 1 = k + 896 := by omega
  rw [e1, e2]
  cases s <;> rfl
theorem W64_nn (h : Nrm m k) : NN64 (W64 s m k) := by
  obtain ⟨h1, -, h3⟩ := W64_mod (s := s) h
  have a := h.lo; have b := h.hi; have c := h.k
  unfold NN64
  omega
theorem to64_W (h : Nrm m k) : to64 (W32 s m k) = W64 s m k := by
  have a := h.lo; have b := h.hi; have c := h.k
  have hnear : Ieee.double.nearest s m (-149 + (k : Int)) = W64 s m k := by
    have hm0 : m ≠ 0 := by omega
    have hl := nrm_log h
    rw [nearest_defF Ieee.double s m _ hm0, dbl_b, dbl_i, dbl_f, dbl_l, hl]
    have e0 : max (-149 + (k : Int) + ((23 : Nat) : Int) - ((52 : Nat) : Int)) (-1074) = -149 + (k : Int) - 29 := by omega
    rw [e0]
    have e1 : (-149 + (k : Int) - (-149 + (k : Int) - 29)).toNat = 29 := by omega
    have e2 : (-149 + (k : Int) - 29 - (-149 + (k : Int))).toNat = 0 := by omega
    have e3 : (-149 + (k : Int) - 29 - -1074).toNat = k + 896 := by omega
    rw [e1, e2, e3, shl]
    have e4 := cut_exact s (m * 2 ^ 29) 0 (by omega)
    rw [Nat.pow_zero, Nat.mul_one] at e4
    rw [e4, Nat.min_eq_left (by omega)]
    rfl
  unfold to64 floatToFloatBits
  rw [if_neg (by decide)]
  show (match Ieee.single.read (W32 s m k) with
      | .nan _ _ => none
      | .infinity s => some (Ieee.double.write (.infinity s))
      | .number s m e => if (Ieee.double.read (Ieee.double.write (.number s m e))).isInfinity then none else some (Ieee.double.write (.number s m e))).getD 0 = _
  rw [read_W32 h]
  show (if (Ieee.double.read (Ieee.double.nearest s m (-149 + (k : Int)))).isInfinity = true then none else some (Ieee.double.nearest s m (-149 + (k : Int)))).getD 0 = _
  rw [hnear, read_W64 h]
  rfl
theorem quot_def (d : Nat) (q : Bool) (a : Nat) (i j : Int) (n : Nat) (hn : n ≠ 0) : Ieee.Datum.quotient d (.number q a i) (.number false n j) = some (.number q (2 * (a <<< (d + n.log2 - a.log2) / n) + (a <<< (d + n.log2 - a.log2) % n != 0).toNat) (i - j - (d + n.log2 - a.log2 : Nat) - 1)) := by
  unfold Ieee.Datum.quotient
  dsimp only
  rw [if_neg hn, Bool.xor_false]
theorem half64_def {q : Bool} {M : Nat} {p : Int} (hr : Ieee.double.read y = .number q M p) : half64 y = Ieee.double.nearest q (2 * (M <<< (106 - M.log2) / 4503599627370496) + (M <<< (106 - M.log2) % 4503599627370496 != 0).toNat) (p - (-51) - (106 - M.log2 : Nat) - 1) := by
  have h0 : Ieee.double.read 4611686018427387904 = .number false 4503599627370496 (-51) := by decide +kernel
  have hl52 : (4503599627370496 : Nat).log2 = 52 := by decide +kernel
  unfold half64 Ieee.Format.div
  rw [hr, h0, quot_def _ _ _ _ _ _ (by decide), hl52, dbl_f]
  rfl
theorem half64_W (h : Nrm m (k + 1)) : half64 (W64 s m (k + 1)) = W64 s m k := by
  have a := h.lo; have b := h.hi; have c := h.k
  have hlM : (m * 536870912).log2 = 52 := log2_of (by omega) (by omega)
  have hd := half64_def (read_W64 (s := s) h)
  rw [hlM] at hd
  have e1 : (m * 536870912) <<< (106 - 52) = m * 536870912 * 4 * 4503599627370496 := by
    rw [shl, Nat.mul_assoc (m * 536870912)]
  rw [e1, Nat.mul_div_cancel _ (by omega), Nat.mul_mod_left] at hd
  have e2 : 2 * (m * 536870912 * 4) + ((0 : Nat) != 0).toNat = m * 536870912 * 2 ^ 3 := by
    show 2 * (m * 536870912 * 4) + 0 = _
    omega
  rw [e2] at hd
  rw [hd, near_double (by omega) (by omega) (by omega) (by omega)]
  unfold W64
  have e3 : ((-1074 + ((k + 1 + 896 : Nat) : Int)) - (-51) - (106 - 52 : Nat) - 1 + ((3 : Nat) : Int) + 1074).toNat = k + 896 := by omega
  rw [e3]
theorem sub64_W (h : Nrm m k) : sub64 (W64 s m k) = W64 (!s) m k := by
  have a := h.lo; have b := h.hi; have c := h.k
  have h0 : Ieee.double.read 0 = .number false 0 (-1074) := by decide +kernel
  unfold sub64 Ieee.Format.sub
  rw [read_W64 h, h0]
  have hb : min (-1074 : Int) (-1074 + ((k + 896 : Nat) : Int)) = -1074 := by omega
  have ek : ((-1074 : Int) + ((k + 896 : Nat) : Int) - (-1074)).toNat = k + 896 := by omega
  simp only [Ieee.Datum.opposite, Ieee.Datum.sum, hb, ek, Option.map_some, Option.getD_some]
  have e0 : Ieee.signed false 0 ((-1074 : Int) - (-1074)).toNat = 0 := by decide +kernel
  rw [e0, Int.zero_add]
  show Ieee.double.nearest _ _ _ = _
  have hpos : 0 < m * 536870912 * 2 ^ (k + 896) := Nat.mul_pos (by omega) (Nat.two_pow_pos _)
  have hnear : ∀ q : Bool, Ieee.double.nearest q (m * 536870912 * 2 ^ (k + 896)) (-1074) = W64 q m k := fun q => by
    rw [near_double (by omega) (by omega) (by omega) (by omega)]
    unfold W64
    have e3 : ((-1074 : Int) + ((k + 896 : Nat) : Int) + 1074).toNat = k + 896 := by omega
    rw [e3]
  cases s
  · have et : Ieee.signed (!false) (m * 536870912) (k + 896) = -((m * 536870912 * 2 ^ (k + 896) : Nat) : Int) := by simp [Ieee.signed, shl]
    rw [et, if_neg (by omega), Int.natAbs_neg, Int.natAbs_natCast, decide_eq_true (by omega)]
    exact hnear true
  · have et : Ieee.signed (!true) (m * 536870912) (k + 896) = ((m * 536870912 * 2 ^ (k + 896) : Nat) : Int) := by simp [Ieee.signed, shl]
    rw [et, if_neg (by omega), Int.natAbs_natCast, decide_eq_false (by omega)]
    exact hnear false
/-! ### noughts -/
theorem read_z64 (h : y % 9223372036854775808 = 0) : ∃ q, Ieee.double.read y = .number q 0 (-1074) := by
  rw [read64, if_pos (by omega), h]
  exact ⟨_, rfl⟩
theorem near_z64 (q : Bool) (p : Int) : Ieee.double.nearest q 0 p % 9223372036854775808 = 0 := by
  have : Ieee.double.nearest q 0 p = Ieee.double.word q 0 := by unfold Ieee.Format.nearest; rw [if_pos rfl]
  rw [this, word64_eq q (by omega)]
  cases q <;> simp
theorem half64_z (h : y % 9223372036854775808 = 0) : half64 y % 9223372036854775808 = 0 := by
  obtain ⟨q, hr⟩ := read_z64 h
  rw [half64_def hr, Nat.zero_shiftLeft]
  exact near_z64 _ _
theorem sub64_z (h : y % 9223372036854775808 = 0) : sub64 y % 9223372036854775808 = 0 := by
  obtain ⟨q, hr⟩ := read_z64 h
  have h0 : Ieee.double.read 0 = .number false 0 (-1074) := by decide +kernel
  unfold sub64 Ieee.Format.sub
  rw [hr, h0]
  cases q <;> decide +kernel
theorem to64_z (hlt : x < 4294967296) (h : x % 2147483648 = 0) : to64 x % 9223372036854775808 = 0 := by
  have : x = 0 ∨ x = 2147483648 := by omega
  rcases this with rfl | rfl <;> decide +kernel
theorem order_z64 {a b : Nat} (ha : a % 9223372036854775808 = 0) (hb : b % 9223372036854775808 = 0) : FloatKind.f64.format.order a b = some .eq := by
  obtain ⟨p, hp⟩ := read_z64 ha
  obtain ⟨q, hq⟩ := read_z64 hb
  show (Ieee.double.read a).order (Ieee.double.read b) = some .eq
  rw [hp, hq]
  cases p <;> cases q <;> decide +kernel
/-! ### where it is lossy -/
theorem half_low (h : Fin32 x) (hx : x % 2147483648 < 16777216) : x % 2147483648 / 2 ≤ half x % 2147483648 ∧ half x % 2147483648 ≤ x % 2147483648 / 2 + 1 := by
  by_cases hz : x % 2147483648 = 0
  · rw [(half_some h).2.2 hz, hz]; omega
  · have hr : Ieee.single.read x = .number (x / 2147483648 % 2 == 1) (x % 2147483648) (-149 + ((0 : Nat) : Int)) := by
      rw [read32]
      by_cases h1 : x % 2147483648 < 8388608
      · rw [if_pos h1]; rfl
      · rw [if_neg h1, if_pos h.2]
        have e1 : 8388608 + x % 2147483648 % 8388608 = x % 2147483648 := by omega
        have e2 : x % 2147483648 / 8388608 - 1 = 0 := by omega
        rw [e1, e2]
    have hd := half_def h hr hz hx
    generalize x % 2147483648 = m at hz hx hd ⊢
    have hlog : m.log2 ≤ 23 := by
      have : m < 2 ^ 24 := by omega
      have := (Nat.log2_lt hz).2 this; omega
    have hmag : m * 2 ^ (26 - m.log2) ≠ 0 := Nat.mul_ne_zero hz (Nat.ne_of_gt (Nat.two_pow_pos _))
    have hl26 : (m * 2 ^ (26 - m.log2)).log2 = 26 := by rw [log2_mul_pow hz]; omega
    obtain ⟨L, C, hL, hC, he⟩ := nearest_def (x / 2147483648 % 2 == 1) (m * 2 ^ (26 - m.log2)) (-149 + ((0 : Nat) : Int) - 27 + (m.log2 : Int)) hmag
    rw [he] at hd
    rw [hl26] at hL hC
    have e0 : max (-149 + ((0 : Nat) : Int) - 27 + (m.log2 : Int) + ((26 : Nat) : Int) - 23) (-149) = -149 := by omega
    rw [e0] at hL hC
    have e1 : (-149 + ((0 : Nat) : Int) - 27 + (m.log2 : Int) - -149).toNat = 0 := by omega
    have e2 : (-149 - (-149 + ((0 : Nat) : Int) - 27 + (m.log2 : Int))).toNat = 27 - m.log2 := by omega
    rw [e1, e2, Nat.shiftLeft_zero] at hC
    have hL0 : L = 0 := by rw [hL]; decide
    have hdiv : m * 2 ^ (26 - m.log2) / 2 ^ (27 - m.log2) = m / 2 := by
      rw [show 27 - m.log2 = (26 - m.log2) + 1 by omega, Nat.pow_succ, ← Nat.div_div_eq_div_mul, Nat.mul_div_cancel _ (Nat.two_pow_pos _)]
    have g1 := cut_ge (x / 2147483648 % 2 == 1) (m * 2 ^ (26 - m.log2)) (27 - m.log2) (by rw [hl26]; omega)
    have g2 := cut_le (x / 2147483648 % 2 == 1) (m * 2 ^ (26 - m.log2)) (27 - m.log2) (27 - m.log2) (Nat.le_refl _) (by rw [hl26]; omega)
    rw [hdiv, ← hC] at g1 g2
    rw [hL0, Nat.zero_mul, Nat.zero_add, Nat.min_eq_left (by omega), word32_eq _ (by omega)] at hd
    rw [hd]
    cases (x / 2147483648 % 2 == 1) <;> simp <;> omega
theorem tiny_of (h : Fin32 x) (h0 : 0 < x % 2147483648) (h1 : x % 2147483648 < 8388608) : tinyB x = true := by
  have hr : Ieee.single.read x = .number (x / 2147483648 % 2 == 1) (x % 2147483648) (-149) := by rw [read32, if_pos h1]
  have ra : Ieee.single.read 2155872256 = .number true 8388608 (-149) := by decide +kernel
  have rb : Ieee.single.read 8388608 = .number false 8388608 (-149) := by decide +kernel
  have hn : neB x = true := by
    unfold neB
    have := order_zero h
    simp only [bne, this]
    simp; omega
  have hsg : ∀ q : Bool, -8388608 < Ieee.signed q (x % 2147483648) 0 ∧ Ieee.signed q (x % 2147483648) 0 < 8388608 := fun q => by cases q <;> simp [Ieee.signed] <;> omega
  have hg : gtB x = true := by
    show (Ieee.single.order x 2155872256 == some .gt) = true
    unfold Ieee.Format.order
    rw [hr, ra]
    have e : ((-149 : Int) - min (-149) (-149)).toNat = 0 := by decide
    simp only [Ieee.Datum.order, e]
    have : compare (Ieee.signed (x / 2147483648 % 2 == 1) (x % 2147483648) 0) (Ieee.signed true 8388608 0) = .gt := by
      rw [Int.compare_eq_gt]
      have := (hsg (x / 2147483648 % 2 == 1)).1
      have e2 : Ieee.signed true 8388608 0 = -8388608 := by decide
      omega
    rw [this]; rfl
  have hl : ltB x = true := by
    show (Ieee.single.order x 8388608 == some .lt) = true
    unfold Ieee.Format.order
    rw [hr, rb]
    have e : ((-149 : Int) - min (-149) (-149)).toNat = 0 := by decide
    simp only [Ieee.Datum.order, e]
    have : compare (Ieee.signed (x / 2147483648 % 2 == 1) (x % 2147483648) 0) (Ieee.signed false 8388608 0) = .lt := by
      rw [Int.compare_eq_lt]
      have := (hsg (x / 2147483648 % 2 == 1)).2
      have e2 : Ieee.signed false 8388608 0 = 8388608 := by decide
      omega
    rw [this]; rfl
  unfold tinyB
  rw [hn, hg, hl]; rfl
end
end Go.Proofs.Ytmoajpkgdimdaaa
