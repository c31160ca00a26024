/- Floats of 32 bits, further: how they stand to each other and to the greatest; what is no number. -/
import Derived.Test.YtmoajpkgdimdaaaFloat
namespace Go.Proofs.Ytmoajpkgdimdaaa
open Go.RowKit

/-- A word is finite, as a Bool under a name. -/
def finB (x : Nat) : Bool := decide (x % 2147483648 < 2139095040)
theorem finB_iff {x : Nat} (h : x < 4294967296) : finB x = true ↔ Fin32 x := by simp [finB, Fin32, h]

theorem compare_ge {a b : Int} (h : b ≤ a) : (some (compare a b) == some Ordering.gt || some (compare a b) == some Ordering.eq) = true := by
  rcases Int.lt_or_eq_of_le h with h | h
  · have : compare a b = .gt := by rw [Int.compare_eq_gt]; exact h
    rw [this]; decide
  · subst h; have : compare b b = .eq := Int.compare_eq_eq.2 rfl
    rw [this]; decide
theorem compare_le {a b : Int} (h : a ≤ b) : (some (compare a b) == some Ordering.lt || some (compare a b) == some Ordering.eq) = true := by
  rcases Int.lt_or_eq_of_le h with h | h
  · have : compare a b = .lt := by rw [Int.compare_eq_lt]; exact h
    rw [this]; decide
  · subst h; have : compare a a = .eq := Int.compare_eq_eq.2 rfl
    rw [this]; decide

theorem maxread : Ieee.single.read 2139095039 = .number false 16777215 104 := by decide +kernel
theorem minread : Ieee.single.read 4286578687 = .number true 16777215 104 := by decide +kernel

theorem signed_bd (s : Bool) (m : Nat) (h : m < 16777216) : -16777215 ≤ Ieee.signed s m 0 ∧ Ieee.signed s m 0 ≤ 16777215 := by
  cases s <;> simp [Ieee.signed] <;> omega

/-- The program's test. -/
theorem fin_tests (x : Nat) :
    (((FloatKind.f32.format.order x 4286578687 == some .gt) || (FloatKind.f32.format.order x 4286578687 == some .eq)) && ((FloatKind.f32.format.order x 2139095039 == some .lt) || (FloatKind.f32.format.order x 2139095039 == some .eq))) = finB x := by
  show (((Ieee.single.order x 4286578687 == some .gt) || (Ieee.single.order x 4286578687 == some .eq)) && ((Ieee.single.order x 2139095039 == some .lt) || (Ieee.single.order x 2139095039 == some .eq))) = finB x
  unfold Ieee.Format.order
  rw [maxread, minread]
  by_cases h1 : x % 2147483648 < 2139095040
  · have hf : finB x = true := by simp [finB, h1]
    rw [hf]
    have hr : ∃ (s : Bool) (m k : Nat), Ieee.single.read x = .number s m (-149 + k) ∧ k ≤ 253 ∧ m < 16777216 := by
      rw [read32]
      by_cases h2 : x % 2147483648 < 8388608
      · rw [if_pos h2]; exact ⟨x / 2147483648 % 2 == 1, x % 2147483648, 0, rfl, by omega, by omega⟩
      · rw [if_neg h2, if_pos h1]; exact ⟨_, _, _, rfl, by omega, by omega⟩
    obtain ⟨s, m, k, hr, hk, hm⟩ := hr
    rw [hr]
    have hb : min (-149 + (k : Int)) 104 = -149 + k := by omega
    have e1 : ((-149 + (k : Int)) - (-149 + k)).toNat = 0 := by omega
    have e2 : ((104 : Int) - (-149 + k)).toNat = 253 - k := by omega
    simp only [Ieee.Datum.order, hb, e1, e2]
    have hs := signed_bd s m hm
    have hp : 1 ≤ 2 ^ (253 - k) := Nat.two_pow_pos _
    have hg : (16777215 : Int) ≤ Ieee.signed false 16777215 (253 - k) := by
      simp only [Ieee.signed, shl, Bool.false_eq_true, if_false]
      have : 16777215 * 1 ≤ 16777215 * 2 ^ (253 - k) := Nat.mul_le_mul_left _ hp
      omega
    have hl : Ieee.signed true 16777215 (253 - k) ≤ (-16777215 : Int) := by
      simp only [Ieee.signed, shl, if_true]
      have : 16777215 * 1 ≤ 16777215 * 2 ^ (253 - k) := Nat.mul_le_mul_left _ hp
      omega
    rw [compare_ge (by omega), compare_le (by omega)]; rfl
  · have hf : finB x = false := by simp [finB, h1]
    rw [hf, read32, if_neg (by omega), if_neg h1]
    by_cases h2 : x % 2147483648 = 2139095040
    · rw [if_pos h2]; cases (x / 2147483648 % 2 == 1) <;> rfl
    · rw [if_neg h2]; rfl

/-- A number taken from itself; what comes of what is no finite number. -/
theorem sub_self_fin {x : Nat} (h : Fin32 x) : Ieee.single.sub x x = some 0 := by
  obtain ⟨m, k, hr, hk, hm, hx⟩ := fin_read h
  unfold Ieee.Format.sub
  rw [hr]
  have hb : min (-149 + (k : Int)) (-149 + k) = -149 + k := by omega
  have e1 : ((-149 + (k : Int)) - (-149 + k)).toNat = 0 := by omega
  simp only [Ieee.Datum.opposite, Ieee.Datum.sum, hb, e1]
  have e : ∀ b : Bool, Ieee.signed b m 0 + Ieee.signed (!b) m 0 = 0 := by intro b; cases b <;> simp [Ieee.signed] <;> omega
  rw [e]
  simp [Ieee.Format.write, nearest_zero, Ieee.Format.word]
theorem sub_self_no {x : Nat} (h : finB x = false) : Ieee.single.sub x x = none := by
  have h1 : ¬ x % 2147483648 < 2139095040 := by simpa [finB] using h
  unfold Ieee.Format.sub
  rw [read32, if_neg (by omega), if_neg h1]
  by_cases h2 : x % 2147483648 = 2139095040
  · rw [if_pos h2]; cases (x / 2147483648 % 2 == 1) <;> rfl
  · rw [if_neg h2]; rfl

/-- What the model draws where an operation on two 32 bit floats has no answer. -/
def nan32 (w : World) (x y : Nat) : Nat := (Question.nanBits .f32 x y).cut (w.tape w.drawn (.nanBits .f32 x y))
theorem nan32_order (w : World) (x y z : Nat) : FloatKind.f32.format.order (nan32 w x y) z = none := by
  show (Ieee.single.read (nan32 w x y)).order (Ieee.single.read z) = none
  have hr : ∃ s t, Ieee.single.read (nan32 w x y) = .nan s t := by
    have hn : nan32 w x y = (w.tape w.drawn (.nanBits .f32 x y) % 2) * 2 ^ 31 + 0x7f800000 + 1 + (w.tape w.drawn (.nanBits .f32 x y) / 2) % (2 ^ 23 - 1) := rfl
    generalize w.tape w.drawn (.nanBits .f32 x y) = t at hn
    have h1 : (t / 2) % (2 ^ 23 - 1) < 8388607 := Nat.mod_lt _ (by decide)
    have h2 : t % 2 < 2 := Nat.mod_lt _ (by decide)
    have e31 : (2 : Nat) ^ 31 = 2147483648 := by decide +kernel
    rw [e31] at hn
    generalize (t / 2) % (2 ^ 23 - 1) = u at hn h1
    generalize t % 2 = v at hn h2
    rw [hn, read32]
    rw [if_neg (by omega), if_neg (by omega), if_neg (by omega)]
    exact ⟨_, _, rfl⟩
  obtain ⟨s, t, hr⟩ := hr
  rw [hr]; rfl
theorem run_sub_nan {P : Program} (w : World) (t : TypeId) (x y : Nat) (h : Ieee.single.sub x y = none) : (binOp .sub t (.float .f32 x) (.float .f32 y)).run P w = .ok (.float .f32 (nan32 w x y)) w.drew := by
  have h' : FloatKind.f32.format.sub x y = none := h
  simp [binOp, Op.floatArith, h', Question.forced, nan32]

/-- The test against 0. -/
theorem order_zero {x : Nat} (h : Fin32 x) : (FloatKind.f32.format.order x 0 == some .eq) = decide (x % 2147483648 = 0) := by
  show ((Ieee.single.read x).order (Ieee.single.read 0) == some .eq) = _
  obtain ⟨m, k, hr, hk, hm, hx⟩ := fin_read h
  have h0 : Ieee.single.read 0 = .number false 0 (-149) := by decide +kernel
  rw [hr, h0]
  have hb : min (-149 + (k : Int)) (-149) = -149 := by omega
  have e1 : ((-149 + (k : Int)) - (-149)).toNat = k := by omega
  simp only [Ieee.Datum.order, hb, e1]
  have e2 : Ieee.signed false 0 ((-149 : Int) - (-149)).toNat = 0 := by decide +kernel
  rw [e2]
  have hp : 0 < 2 ^ k := Nat.two_pow_pos k
  by_cases hm0 : m = 0
  · have hz : x % 2147483648 = 0 := by omega
    subst hm0
    have : ∀ b : Bool, Ieee.signed b 0 k = 0 := by intro b; cases b <;> simp [Ieee.signed, shl]
    rw [this, decide_eq_true hz]; rfl
  · have hz : ¬ x % 2147483648 = 0 := by omega
    have hne : ∀ b : Bool, Ieee.signed b m k ≠ 0 := by
      have hpos : 0 < m * 2 ^ k := Nat.mul_pos (by omega) hp
      intro b; cases b <;> simp only [Ieee.signed, shl, Bool.false_eq_true, if_false, if_true] <;> omega
    rw [decide_eq_false hz]
    have hq := hne (x / 2147483648 % 2 == 1)
    generalize Ieee.signed (x / 2147483648 % 2 == 1) m k = q at hq ⊢
    have : compare q 0 ≠ .eq := fun h => hq (Int.compare_eq_eq.1 h)
    cases hc : compare q 0 <;> simp_all
end Go.Proofs.Ytmoajpkgdimdaaa
