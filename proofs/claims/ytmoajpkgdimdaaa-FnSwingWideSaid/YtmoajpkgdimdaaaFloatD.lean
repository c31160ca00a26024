/- Floats: words that are numbers or infinities (not NaN), of both widths; what comes of them. -/
import Derived.Test.YtmoajpkgdimdaaaFloatB
namespace Go.Proofs.Ytmoajpkgdimdaaa
open Go.RowKit

/-- A word of 32 bits, of 64 bits that is no NaN. -/
def NN32 (x : Nat) : Prop := x % 2147483648 ≤ 2139095040
def NN64 (x : Nat) : Prop := x % 9223372036854775808 ≤ 9218868437227405312
theorem Fin32.nn {x : Nat} (h : Fin32 x) : NN32 x := by have := h.2; unfold NN32; omega

theorem read64 (x : Nat) : Ieee.double.read x =
    if x % 9223372036854775808 < 4503599627370496 then .number (x / 9223372036854775808 % 2 == 1) (x % 9223372036854775808) (-1074)
    else if x % 9223372036854775808 < 9218868437227405312 then .number (x / 9223372036854775808 % 2 == 1) (4503599627370496 + x % 9223372036854775808 % 4503599627370496) (-1074 + (x % 9223372036854775808 / 4503599627370496 - 1 : Nat))
    else if x % 9223372036854775808 = 9218868437227405312 then .infinity (x / 9223372036854775808 % 2 == 1)
    else .nan (x / 9223372036854775808 % 2 == 1) (x % 9223372036854775808 - 9218868437227405312) := rfl

theorem nn32_read {x : Nat} (h : NN32 x) : (Ieee.single.read x).isNaN = false := by
  rw [read32]
  split
  · rfl
  · split
    · rfl
    · rw [if_pos (by unfold NN32 at h; omega)]; rfl
theorem nn64_read {x : Nat} (h : NN64 x) : (Ieee.double.read x).isNaN = false := by
  rw [read64]
  split
  · rfl
  · split
    · rfl
    · rw [if_pos (by unfold NN64 at h; omega)]; rfl
theorem order_selfD {d : Ieee.Datum} (h : d.isNaN = false) : d.order d = some .eq := by
  cases d with
  | nan s t => cases h
  | infinity s => simp only [Ieee.Datum.order]; exact congrArg some (Nat.compare_eq_eq.2 rfl)
  | number s m e => simp only [Ieee.Datum.order]; exact congrArg some (Int.compare_eq_eq.2 rfl)
theorem order_self64 {x : Nat} (h : NN64 x) : FloatKind.f64.format.order x x = some .eq := order_selfD (nn64_read h)
theorem order_self32 {x : Nat} (h : NN32 x) : FloatKind.f32.format.order x x = some .eq := order_selfD (nn32_read h)

theorem word64_nn (s : Bool) (y : Nat) (h : y ≤ 9218868437227405312) : NN64 (Ieee.double.word s y) := by
  have hlt : y < 9223372036854775808 := by omega
  unfold NN64
  cases s
  · show y % 9223372036854775808 ≤ _
    rw [Nat.mod_eq_of_lt hlt]; exact h
  · show (9223372036854775808 + y) % 9223372036854775808 ≤ _
    rw [Nat.add_mod_left, Nat.mod_eq_of_lt hlt]; exact h
theorem word32_nn (s : Bool) (y : Nat) (h : y ≤ 2139095040) : NN32 (Ieee.single.word s y) := by
  have hlt : y < 2147483648 := by omega
  unfold NN32
  cases s
  · show y % 2147483648 ≤ _
    rw [Nat.mod_eq_of_lt hlt]; exact h
  · show (2147483648 + y) % 2147483648 ≤ _
    rw [Nat.add_mod_left, Nat.mod_eq_of_lt hlt]; exact h
theorem near64_nn (s : Bool) (m : Nat) (p : Int) : NN64 (Ieee.double.nearest s m p) := by
  unfold Ieee.Format.nearest
  dsimp only
  split
  · exact word64_nn _ _ (by omega)
  · exact word64_nn _ _ (Nat.min_le_right _ _)
theorem near32_nn (s : Bool) (m : Nat) (p : Int) : NN32 (Ieee.single.nearest s m p) := by
  unfold Ieee.Format.nearest
  dsimp only
  split
  · exact word32_nn _ _ (by omega)
  · exact word32_nn _ _ (Nat.min_le_right _ _)
theorem write64_nn {d : Ieee.Datum} (h : d.isNaN = false) : NN64 (Ieee.double.write d) := by
  cases d with
  | nan s t => cases h
  | infinity s => exact word64_nn s 9218868437227405312 (Nat.le_refl _)
  | number s m e => exact near64_nn s m e
theorem write32_nn {d : Ieee.Datum} (h : d.isNaN = false) : NN32 (Ieee.single.write d) := by
  cases d with
  | nan s t => cases h
  | infinity s => exact word32_nn s 2139095040 (Nat.le_refl _)
  | number s m e => exact near32_nn s m e

/-- The word of 1, a quotient of it. -/
theorem inv_some {x : Nat} (h : NN64 x) : ∃ y, Ieee.double.div 4607182418800017408 x = some y ∧ NN64 y := by
  have h1 : Ieee.double.read 4607182418800017408 = .number false 4503599627370496 (-52) := by decide +kernel
  have h2 := nn64_read h
  unfold Ieee.Format.div
  rw [h1]
  generalize Ieee.double.read x = d at h2
  cases d with
  | nan s t => cases h2
  | infinity s => exact ⟨_, rfl, write64_nn rfl⟩
  | number s m e =>
    simp only [Ieee.Datum.quotient]
    split
    · rw [if_neg (by omega)]; exact ⟨_, rfl, write64_nn rfl⟩
    · exact ⟨_, rfl, write64_nn rfl⟩

/-- A sum with a finite number. -/
theorem add_some {x y : Nat} (hx : NN32 x) (hy : Fin32 y) : ∃ z, Ieee.single.add x y = some z ∧ NN32 z := by
  obtain ⟨m, k, hr, -⟩ := fin_read hy
  have h2 := nn32_read hx
  unfold Ieee.Format.add
  rw [hr]
  generalize Ieee.single.read x = d at h2
  cases d with
  | nan s t => cases h2
  | infinity s => exact ⟨_, rfl, write32_nn rfl⟩
  | number s m e => exact ⟨_, rfl, write32_nn rfl⟩

theorem nearest_defF (f : Ieee.Format) (s : Bool) (mag : Nat) (place : Int) (h : mag ≠ 0) : f.nearest s mag place = f.word s (min ((max (place + (mag.log2 : Nat) - (f.fractionBits : Nat)) f.leastPlace - f.leastPlace).toNat * f.binade + Ieee.Toward.even.cut s (mag <<< (place - max (place + (mag.log2 : Nat) - (f.fractionBits : Nat)) f.leastPlace).toNat) (max (place + (mag.log2 : Nat) - (f.fractionBits : Nat)) f.leastPlace - place).toNat) f.infRung) := by
  unfold Ieee.Format.nearest; rw [if_neg h]
theorem dbl_b : Ieee.double.binade = 4503599627370496 := by decide +kernel
theorem dbl_i : Ieee.double.infRung = 9218868437227405312 := by decide +kernel
theorem dbl_f : Ieee.double.fractionBits = 52 := rfl
theorem dbl_l : Ieee.double.leastPlace = -1074 := by decide +kernel
/-- A float of 32 bits as one of 64. -/
def to64 (x : Nat) : Nat := (floatToFloatBits .f32 x .f64).getD 0
theorem word64_fin (s : Bool) (y : Nat) (h : y < 9218868437227405312) : Ieee.double.word s y % 9223372036854775808 < 9218868437227405312 := by
  have hlt : y < 9223372036854775808 := by omega
  cases s
  · show y % 9223372036854775808 < _
    rw [Nat.mod_eq_of_lt hlt]; exact h
  · show (9223372036854775808 + y) % 9223372036854775808 < _
    rw [Nat.add_mod_left, Nat.mod_eq_of_lt hlt]; exact h
theorem near64_sum (L C D : Nat) (h1 : L ≤ 1150) (h2 : C ≤ D + 1) (h3 : D < 9007199254740992) : min (L * 4503599627370496 + C) 9218868437227405312 < 9218868437227405312 := by
  have h4 : L * 4503599627370496 + C < 9218868437227405312 := by
    have := Nat.mul_le_mul_right 4503599627370496 h1
    omega
  exact Nat.lt_of_le_of_lt (Nat.min_le_left _ _) h4
theorem near64_sh (m : Nat) (h : m.log2 ≤ 23) : m <<< (52 - m.log2) < 9007199254740992 := by
  rw [shl]
  have h1 : m < 2 ^ (m.log2 + 1) := Nat.lt_log2_self
  have h2 : m * 2 ^ (52 - m.log2) < 2 ^ (m.log2 + 1) * 2 ^ (52 - m.log2) := Nat.mul_lt_mul_of_pos_right h1 (Nat.two_pow_pos _)
  rw [← Nat.pow_add, show m.log2 + 1 + (52 - m.log2) = 53 by omega] at h2
  exact Nat.lt_of_lt_of_le h2 (by decide +kernel)
theorem near64_e (k l : Nat) (hk : k ≤ 253) (hl : l ≤ 23) : ((-149 + (k : Int)) - max ((-149 + (k : Int)) + (l : Int) - (52 : Nat)) (-1074)).toNat = 52 - l ∧ (max ((-149 + (k : Int)) + (l : Int) - (52 : Nat)) (-1074) - (-149 + (k : Int))).toNat = 0 ∧ (max ((-149 + (k : Int)) + (l : Int) - (52 : Nat)) (-1074) - (-1074)).toNat ≤ 1150 := by omega
theorem near64_fin (s : Bool) (m k : Nat) (hm : m < 16777216) (hk : k ≤ 253) : Ieee.double.nearest s m (-149 + k) % 9223372036854775808 < 9218868437227405312 := by
  by_cases h0 : m = 0
  · subst h0
    have : Ieee.double.nearest s 0 (-149 + k) = Ieee.double.word s 0 := by unfold Ieee.Format.nearest; rw [if_pos rfl]
    rw [this]; exact word64_fin s 0 (by decide +kernel)
  · have hlog : m.log2 ≤ 23 := by
      have : m < 2 ^ 24 := by omega
      have := (Nat.log2_lt h0).2 this; omega
    have hn := nearest_defF Ieee.double s m (-149 + (k : Int)) h0
    rw [dbl_b, dbl_i, dbl_f, dbl_l] at hn
    obtain ⟨e1, e2, e3⟩ := near64_e k m.log2 hk hlog
    rw [e1, e2] at hn
    rw [hn]
    refine word64_fin s _ (near64_sum _ _ (m <<< (52 - m.log2)) e3 ?_ (near64_sh m hlog))
    have := cut_le s (m <<< (52 - m.log2)) 0 0 (Nat.le_refl _) (Nat.zero_le _)
    rw [Nat.pow_zero, Nat.div_one] at this
    exact this
theorem to64_some {x : Nat} (h : NN32 x) : floatToFloatBits .f32 x .f64 = some (to64 x) ∧ NN64 (to64 x) := by
  have hs : ∃ y, floatToFloatBits .f32 x .f64 = some y ∧ NN64 y := by
    unfold floatToFloatBits
    rw [if_neg (by decide)]
    show ∃ y, (match Ieee.single.read x with
      | .nan _ _ => none
      | .infinity s => some (Ieee.double.write (.infinity s))
      | .number s m e => if (Ieee.double.read (Ieee.double.write (.number s m e))).isInfinity then none else some (Ieee.double.write (.number s m e))) = some y ∧ NN64 y
    by_cases hf : x % 2147483648 < 2139095040
    · have hr : ∃ (s : Bool) (m k : Nat), Ieee.single.read x = .number s m (-149 + k) ∧ k ≤ 253 ∧ m < 16777216 := by
        rw [read32]
        by_cases h2 : x % 2147483648 < 8388608
        · rw [if_pos h2]; exact ⟨x / 2147483648 % 2 == 1, x % 2147483648, 0, rfl, by omega, by omega⟩
        · rw [if_neg h2, if_pos hf]; exact ⟨_, _, _, rfl, by omega, by omega⟩
      obtain ⟨s, m, k, hr, hk, hm⟩ := hr
      rw [hr]
      have hfin := near64_fin s m k hm hk
      have hni : (Ieee.double.read (Ieee.double.write (.number s m (-149 + k)))).isInfinity = false := by
        show (Ieee.double.read (Ieee.double.nearest s m (-149 + k))).isInfinity = false
        rw [read64]
        split
        · rfl
        · rfl
      simp only [hni]
      exact ⟨_, rfl, near64_nn s m _⟩
    · have h2 : x % 2147483648 = 2139095040 := by unfold NN32 at h; omega
      rw [read32, if_neg (by omega), if_neg hf, if_pos h2]
      exact ⟨_, rfl, write64_nn rfl⟩
  obtain ⟨y, h1, h2⟩ := hs
  have : to64 x = y := by unfold to64; rw [h1]; rfl
  rw [this]; exact ⟨h1, h2⟩
end Go.Proofs.Ytmoajpkgdimdaaa
