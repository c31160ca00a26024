/- Signs in the ring of numbers A + B root 2 + C root 3 + D root 6: plain algebra: signs are multiplied. -/
import Derived.Test.YtklmlodapinflaaKit
namespace Go.Proofs.Ytklmlodapinflaa
structure Q2 where
  x : Int
  y : Int
namespace Q2
theorem ext' {a b : Q2} (h1 : a.x = b.x) (h2 : a.y = b.y) : a = b := by cases a; cases b; simp_all
def add (a b : Q2) : Q2 := ⟨a.x + b.x, a.y + b.y⟩
def neg (a : Q2) : Q2 := ⟨-a.x, -a.y⟩
def mul (a b : Q2) : Q2 := ⟨a.x * b.x + 2 * (a.y * b.y), a.x * b.y + a.y * b.x⟩
def smul (n : Int) (a : Q2) : Q2 := ⟨n * a.x, n * a.y⟩
def nm (a : Q2) : Int := a.x * a.x - 2 * (a.y * a.y)
/-- The sign of x + y root 2. -/
def sg (a : Q2) : Int := if 0 < a.nm then a.x.sign else if a.nm < 0 then a.y.sign else 0
theorem nm_mul (a b : Q2) : (mul a b).nm = a.nm * b.nm := by
  simp only [nm, mul]; grind
end Q2

theorem sq_lt {a b : Int} (h : b * b < a * a) : (0 < a → -a < b ∧ b < a) ∧ (a < 0 → a < b ∧ b < -a) ∧ a ≠ 0 := by
  have key : ∀ c d : Int, 0 ≤ c → c ≤ d → c * c ≤ d * d := fun c d h0 h1 => Int.mul_le_mul h1 h1 h0 (by omega)
  refine ⟨fun ha => ?_, fun ha => ?_, ?_⟩
  · refine ⟨Classical.byContradiction fun hn => ?_, Classical.byContradiction fun hn => ?_⟩
    · have := key a (-b) (by omega) (by omega); rw [Int.neg_mul_neg] at this; omega
    · have := key a b (by omega) (by omega); omega
  · refine ⟨Classical.byContradiction fun hn => ?_, Classical.byContradiction fun hn => ?_⟩
    · have := key (-a) (-b) (by omega) (by omega); rw [Int.neg_mul_neg, Int.neg_mul_neg] at this; omega
    · have := key (-a) b (by omega) (by omega); rw [Int.neg_mul_neg] at this; omega
  · rintro rfl
    have : 0 ≤ b * b := by rcases Int.le_total 0 b with h | h; exact Int.mul_nonneg h h; have := Int.mul_nonneg_of_nonpos_of_nonpos h h; exact this
    omega
theorem sign_add_of_sq {a b : Int} (h : b * b < a * a) : (a + b).sign = a.sign := by
  obtain ⟨h1, h2, h3⟩ := sq_lt h
  rcases Int.lt_trichotomy a 0 with ha | ha | ha
  · have := h2 ha; rw [Int.sign_eq_neg_one_of_neg ha, Int.sign_eq_neg_one_of_neg (by omega)]
  · exact absurd ha h3
  · have := h1 ha; rw [Int.sign_eq_one_of_pos ha, Int.sign_eq_one_of_pos (by omega)]
theorem mlt {a b c d : Int} (h1 : a < b) (h2 : c < d) (h3 : 0 ≤ a) (h4 : 0 ≤ c) : a * c < b * d := by
  have e1 : a * c ≤ a * d := Int.mul_le_mul_of_nonneg_left (by omega) h3
  have e2 : a * d < b * d := Int.mul_lt_mul_of_pos_right h1 (by omega)
  omega
theorem sq_pos {a : Int} (h : a ≠ 0) : 0 < a * a := by
  rcases Int.lt_or_gt_of_ne h with h | h
  · exact Int.mul_pos_of_neg_of_neg h h
  · exact Int.mul_pos h h
theorem sq_nn (a : Int) : 0 ≤ a * a := by
  by_cases h : a = 0
  · subst h; simp
  · exact Int.le_of_lt (sq_pos h)

/-! No fraction squares to 2, 3 or 6. -/
theorem no2 : ∀ (n : Nat) (a c : Int), a.natAbs ≤ n → a * a = 2 * (c * c) → a = 0 ∧ c = 0
  | 0, a, c, hn, h => by
    have : a = 0 := by omega
    subst this
    refine ⟨rfl, Classical.byContradiction fun hc => ?_⟩
    have := sq_pos hc; omega
  | n + 1, a, c, hn, h => by
    have he : a % 2 = 0 := by
      rcases Int.emod_two_eq a with h0 | h0
      · exact h0
      · have : (a * a) % 2 = 1 := by rw [Int.mul_emod, h0]; rfl
        omega
    obtain ⟨k, rfl⟩ : ∃ k, a = 2 * k := ⟨a / 2, by omega⟩
    have h2 : c * c = 2 * (k * k) := by grind
    by_cases hk : k = 0
    · subst hk
      refine ⟨rfl, Classical.byContradiction fun hc => ?_⟩
      have := sq_pos hc; omega
    · obtain ⟨hl, -, -⟩ : True ∧ True ∧ True := ⟨trivial, trivial, trivial⟩
      have hc : c.natAbs ≤ n := by
        have h3 : c * c < (2 * k) * (2 * k) := by have := sq_pos hk; have e : (2 * k) * (2 * k) = 4 * (k * k) := by grind
                                                  omega
        obtain ⟨g1, g2, g3⟩ := sq_lt h3
        rcases Int.lt_or_gt_of_ne g3 with h | h
        · have := g2 h; omega
        · have := g1 h; omega
      obtain ⟨e1, e2⟩ := no2 n c k hc h2
      exact absurd e2 hk
theorem no3 : ∀ (n : Nat) (a c : Int), a.natAbs ≤ n → a * a = 3 * (c * c) → a = 0 ∧ c = 0
  | 0, a, c, hn, h => by
    have : a = 0 := by omega
    subst this
    refine ⟨rfl, Classical.byContradiction fun hc => ?_⟩
    have := sq_pos hc; omega
  | n + 1, a, c, hn, h => by
    have he : a % 3 = 0 := by
      have hc : a % 3 = 0 ∨ a % 3 = 1 ∨ a % 3 = 2 := by omega
      rcases hc with h0 | h0 | h0
      · exact h0
      · have : (a * a) % 3 = 1 := by rw [Int.mul_emod, h0]; rfl
        omega
      · have : (a * a) % 3 = 1 := by rw [Int.mul_emod, h0]; rfl
        omega
    obtain ⟨k, rfl⟩ : ∃ k, a = 3 * k := ⟨a / 3, by omega⟩
    have h2 : c * c = 3 * (k * k) := by grind
    by_cases hk : k = 0
    · subst hk
      refine ⟨rfl, Classical.byContradiction fun hc => ?_⟩
      have := sq_pos hc; omega
    · have hc : c.natAbs ≤ n := by
        have h3 : c * c < (3 * k) * (3 * k) := by have := sq_pos hk; have e : (3 * k) * (3 * k) = 9 * (k * k) := by grind
                                                  omega
        obtain ⟨g1, g2, g3⟩ := sq_lt h3
        rcases Int.lt_or_gt_of_ne g3 with h | h
        · have := g2 h; omega
        · have := g1 h; omega
      obtain ⟨e1, e2⟩ := no3 n c k hc h2
      exact absurd e2 hk
theorem no6 : ∀ (n : Nat) (a c : Int), a.natAbs ≤ n → a * a = 6 * (c * c) → a = 0 ∧ c = 0
  | 0, a, c, hn, h => by
    have : a = 0 := by omega
    subst this
    refine ⟨rfl, Classical.byContradiction fun hc => ?_⟩
    have := sq_pos hc; omega
  | n + 1, a, c, hn, h => by
    have he : a % 3 = 0 := by
      have hc : a % 3 = 0 ∨ a % 3 = 1 ∨ a % 3 = 2 := by omega
      rcases hc with h0 | h0 | h0
      · exact h0
      · have : (a * a) % 3 = 1 := by rw [Int.mul_emod, h0]; rfl
        omega
      · have : (a * a) % 3 = 1 := by rw [Int.mul_emod, h0]; rfl
        omega
    obtain ⟨k, rfl⟩ : ∃ k, a = 3 * k := ⟨a / 3, by omega⟩
    have h2 : 2 * (c * c) = 3 * (k * k) := by grind
    have hce : c % 3 = 0 := by
      have hc : c % 3 = 0 ∨ c % 3 = 1 ∨ c % 3 = 2 := by omega
      rcases hc with h0 | h0 | h0
      · exact h0
      · have : (c * c) % 3 = 1 := by rw [Int.mul_emod, h0]; rfl
        omega
      · have : (c * c) % 3 = 1 := by rw [Int.mul_emod, h0]; rfl
        omega
    obtain ⟨m, rfl⟩ : ∃ m, c = 3 * m := ⟨c / 3, by omega⟩
    have h4 : k * k = 6 * (m * m) := by grind
    by_cases hk : k = 0
    · subst hk
      refine ⟨rfl, Classical.byContradiction fun hc => ?_⟩
      have := sq_pos hc; omega
    · obtain ⟨e1, e2⟩ := no6 n k m (by omega) h4
      exact absurd e1 hk

namespace Q2
theorem nm_zero {a : Q2} : a.nm = 0 ↔ a = ⟨0, 0⟩ := by
  constructor
  · intro h
    obtain ⟨h1, h2⟩ := no2 a.x.natAbs a.x a.y (Nat.le_refl _) (by unfold nm at h; omega)
    exact ext' h1 h2
  · rintro rfl; rfl
theorem sg_pos {a : Q2} (h : 0 < a.nm) : a.sg = a.x.sign := by rw [sg, if_pos h]
theorem sg_neg {a : Q2} (h : a.nm < 0) : a.sg = a.y.sign := by rw [sg, if_neg (by omega), if_pos h]
theorem x_ne {a : Q2} (h : 0 < a.nm) : a.x ≠ 0 := by
  intro e; unfold nm at h; rw [e] at h; have := sq_nn a.y; omega
theorem y_ne {a : Q2} (h : a.nm < 0) : a.y ≠ 0 := by
  intro e; unfold nm at h; rw [e] at h; have := sq_nn a.x; omega
theorem sg_zero {a : Q2} : a.sg = 0 ↔ a = ⟨0, 0⟩ := by
  constructor
  · intro h
    rcases Int.lt_trichotomy a.nm 0 with hn | hn | hn
    · rw [sg_neg hn] at h; exact absurd (Int.sign_eq_zero_iff_zero.1 h) (y_ne hn)
    · exact nm_zero.1 hn
    · rw [sg_pos hn] at h; exact absurd (Int.sign_eq_zero_iff_zero.1 h) (x_ne hn)
  · rintro rfl; rfl
theorem sg_mul (a b : Q2) : (mul a b).sg = a.sg * b.sg := by
  have hN := nm_mul a b
  rcases Int.lt_trichotomy a.nm 0 with ha | ha | ha
  · rcases Int.lt_trichotomy b.nm 0 with hb | hb | hb
    · rw [sg_neg ha, sg_neg hb, sg_pos (by rw [hN]; exact Int.mul_pos_of_neg_of_neg ha hb)]
      show (a.x * b.x + 2 * (a.y * b.y)).sign = _
      rw [Int.add_comm, sign_add_of_sq, Int.sign_mul, Int.sign_mul]
      · simp only [show (2:Int).sign = 1 from rfl, Int.one_mul]
      · have := sq_nn a.x; have := sq_nn b.x
        unfold nm at ha hb
        have h1 : a.x * a.x * (b.x * b.x) < (2 * (a.y * a.y)) * (2 * (b.y * b.y)) := mlt (by omega) (by omega) (by omega) (by omega)
        grind
    · rw [nm_zero.1 hb]; simp [mul, sg, nm]
    · rw [sg_neg ha, sg_pos hb, sg_neg (by rw [hN]; exact Int.mul_neg_of_neg_of_pos ha hb)]
      show (a.x * b.y + a.y * b.x).sign = _
      rw [Int.add_comm, sign_add_of_sq, Int.sign_mul]
      have := sq_nn a.x; have := sq_nn b.y
      unfold nm at ha hb
      have h1 : a.x * a.x * (2 * (b.y * b.y)) < (2 * (a.y * a.y)) * (b.x * b.x) := mlt (by omega) (by omega) (by omega) (by omega)
      grind
  · rw [nm_zero.1 ha]; simp [mul, sg, nm]
  · rcases Int.lt_trichotomy b.nm 0 with hb | hb | hb
    · rw [sg_pos ha, sg_neg hb, sg_neg (by rw [hN]; exact Int.mul_neg_of_pos_of_neg ha hb)]
      show (a.x * b.y + a.y * b.x).sign = _
      rw [sign_add_of_sq, Int.sign_mul]
      have := sq_nn a.y; have := sq_nn b.x
      unfold nm at ha hb
      have h1 : (2 * (a.y * a.y)) * (b.x * b.x) < a.x * a.x * (2 * (b.y * b.y)) := mlt (by omega) (by omega) (by omega) (by omega)
      grind
    · rw [nm_zero.1 hb]; simp [mul, sg, nm]
    · rw [sg_pos ha, sg_pos hb, sg_pos (by rw [hN]; exact Int.mul_pos ha hb)]
      show (a.x * b.x + 2 * (a.y * b.y)).sign = _
      rw [sign_add_of_sq, Int.sign_mul]
      have := sq_nn a.y; have := sq_nn b.y
      unfold nm at ha hb
      have h1 : (2 * (a.y * a.y)) * (2 * (b.y * b.y)) < a.x * a.x * (b.x * b.x) := mlt (by omega) (by omega) (by omega) (by omega)
      grind
theorem sg_negate (a : Q2) : a.neg.sg = -a.sg := by
  have e : a.neg = mul ⟨-1, 0⟩ a := by apply ext' <;> simp [neg, mul]
  rw [e, sg_mul]
  have : (⟨-1, 0⟩ : Q2).sg = -1 := by decide
  rw [this]; omega
end Q2

/-- Products of numbers whose squares are greater are greater. -/
theorem lt_of_sq {a b : Int} (ha : 0 < a) (h : b * b < a * a) : -a < b ∧ b < a := (sq_lt h).1 ha
namespace Q2
theorem pos_cases {a : Q2} (h : a.sg = 1) : (0 < a.nm ∧ 0 < a.x) ∨ (a.nm < 0 ∧ 0 < a.y) := by
  rcases Int.lt_trichotomy a.nm 0 with hn | hn | hn
  · rw [sg_neg hn] at h; exact Or.inr ⟨hn, Int.sign_eq_one_iff_pos.1 h⟩
  · rw [nm_zero.1 hn] at h; simp [sg, nm] at h
  · rw [sg_pos hn] at h; exact Or.inl ⟨hn, Int.sign_eq_one_iff_pos.1 h⟩
theorem pos_mk {a : Q2} (h : (0 < a.nm ∧ 0 < a.x) ∨ (a.nm < 0 ∧ 0 < a.y)) : a.sg = 1 := by
  rcases h with ⟨h1, h2⟩ | ⟨h1, h2⟩
  · rw [sg_pos h1]; exact Int.sign_eq_one_of_pos h2
  · rw [sg_neg h1]; exact Int.sign_eq_one_of_pos h2
/-- the mixed case: p > -q root 2, q' root 2 > -p', never p + p' <= 0 and (p+p')^2 > 2 (q+q')^2. -/
theorem mix {p q p' q' : Int} (h1 : 2 * (q * q) < p * p) (hp : 0 < p) (h2 : p' * p' < 2 * (q' * q')) (hq : 0 < q') (h3 : p + p' ≤ 0) (h4 : 2 * ((q + q') * (q + q')) < (p + p') * (p + p')) : False := by
  obtain ⟨b, hb⟩ : ∃ b, b = -(p + p') := ⟨_, rfl⟩
  obtain rfl : p' = -(p + b) := by omega
  have hb0 : 0 ≤ b := by omega
  have e1 : (p + -(p + b)) * (p + -(p + b)) = b * b := by grind
  rw [e1] at h4
  have e2 : -(p + b) * -(p + b) = p * p + 2 * (p * b) + b * b := by grind
  rw [e2] at h2
  have hpb : 0 ≤ p * b := Int.mul_nonneg (by omega) hb0
  by_cases hq0 : 0 ≤ q
  · have hqq : 0 ≤ q * q' := Int.mul_nonneg hq0 (by omega)
    have := sq_nn q; have := sq_nn p
    have e3 : (q + q') * (q + q') = q * q + 2 * (q * q') + q' * q' := by grind
    omega
  · obtain ⟨c, rfl⟩ : ∃ c, q = -c := ⟨-q, by omega⟩
    rw [Int.neg_mul_neg] at h1
    by_cases hc : q' ≤ c
    · have : q' * q' ≤ c * c := Int.mul_le_mul hc hc (by omega) (by omega)
      have := sq_nn b
      omega
    · obtain ⟨e, rfl⟩ : ∃ e, q' = c + e := ⟨q' - c, by omega⟩
      have e4 : (-c + (c + e)) * (-c + (c + e)) = e * e := by grind
      rw [e4] at h4
      have e5 : (c + e) * (c + e) = c * c + 2 * (c * e) + e * e := by grind
      rw [e5] at h2
      -- (b p)^2 > 4 (e c)^2
      have hm : (2 * (c * c)) * (2 * (e * e)) < (p * p) * (b * b) := mlt h1 h4 (by have := sq_nn c; omega) (by have := sq_nn e; omega)
      have hm2 : (2 * (c * e)) * (2 * (c * e)) < (p * b) * (p * b) := by grind
      have hpb' : 0 < p * b := by
        rcases Int.lt_or_eq_of_le hpb with h | h
        · exact h
        · rw [← h] at hm2; have := sq_nn (2 * (c * e)); omega
      have := lt_of_sq hpb' hm2
      omega
theorem mix2 {p q p' q' : Int} (h1 : 2 * (q * q) < p * p) (hp : 0 < p) (h2 : p' * p' < 2 * (q' * q')) (hq : 0 < q') (h3 : q + q' ≤ 0) (h4 : (p + p') * (p + p') < 2 * ((q + q') * (q + q'))) : False := by
  -- scaled by root 2: p' -> 2q', q' -> p'
  refine mix (p := 2 * q') (q := p') (p' := 2 * q) (q' := p) ?_ (by omega) ?_ hp (by omega) ?_
  · have e : (2 * q') * (2 * q') = 4 * (q' * q') := by grind
    omega
  · have e : (2 * q) * (2 * q) = 4 * (q * q) := by grind
    omega
  · have e : (2 * q' + 2 * q) * (2 * q' + 2 * q) = 4 * ((q + q') * (q + q')) := by grind
    have e2 : (p' + p) * (p' + p) = (p + p') * (p + p') := by grind
    omega
theorem sum_lt {p q p' q' : Int} (h1 : 2 * (q * q) < p * p) (hp : 0 < p) (h2 : 2 * (q' * q') < p' * p') (hp' : 0 < p') : 2 * ((q + q') * (q + q')) < (p + p') * (p + p') := by
  have hm : (2 * (q * q)) * (2 * (q' * q')) < (p * p) * (p' * p') := mlt h1 h2 (by have := sq_nn q; omega) (by have := sq_nn q'; omega)
  have hm2 : (2 * (q * q')) * (2 * (q * q')) < (p * p') * (p * p') := by grind
  have := lt_of_sq (Int.mul_pos hp hp') hm2
  have e1 : (q + q') * (q + q') = q * q + 2 * (q * q') + q' * q' := by grind
  have e2 : (p + p') * (p + p') = p * p + 2 * (p * p') + p' * p' := by grind
  omega
theorem sum_lt2 {p q p' q' : Int} (h1 : p * p < 2 * (q * q)) (hq : 0 < q) (h2 : p' * p' < 2 * (q' * q')) (hq' : 0 < q') : (p + p') * (p + p') < 2 * ((q + q') * (q + q')) := by
  have := sum_lt (p := 2 * q) (q := p) (p' := 2 * q') (q' := p') (by have e : (2 * q) * (2 * q) = 4 * (q * q) := by grind
                                                                     omega) (by omega) (by have e : (2 * q') * (2 * q') = 4 * (q' * q') := by grind
                                                                                           omega) (by omega)
  have e : (2 * q + 2 * q') * (2 * q + 2 * q') = 4 * ((q + q') * (q + q')) := by grind
  omega
theorem mixed {a b : Q2} (h1 : 0 < a.nm) (h2 : 0 < a.x) (g1 : b.nm < 0) (g2 : 0 < b.y) : (add a b).sg = 1 := by
  unfold nm at h1 g1
  apply pos_mk
  rcases Int.lt_trichotomy (add a b).nm 0 with hn | hn | hn
  · refine Or.inr ⟨hn, Classical.byContradiction fun hc => ?_⟩
    exact mix2 (p := a.x) (q := a.y) (p' := b.x) (q' := b.y) (by omega) h2 (by omega) g2 (by simp only [add] at hc; omega) (by simp only [nm, add] at hn; omega)
  · have := nm_zero.1 hn
    have ex : a.x + b.x = 0 := congrArg Q2.x this
    have ey : a.y + b.y = 0 := congrArg Q2.y this
    have e1 : b.x = -a.x := by omega
    have e2 : b.y = -a.y := by omega
    rw [e1, e2, Int.neg_mul_neg, Int.neg_mul_neg] at g1
    omega
  · refine Or.inl ⟨hn, Classical.byContradiction fun hc => ?_⟩
    exact mix (p := a.x) (q := a.y) (p' := b.x) (q' := b.y) (by omega) h2 (by omega) g2 (by simp only [add] at hc; omega) (by simp only [nm, add] at hn; omega)
theorem add_comm (a b : Q2) : add a b = add b a := by apply ext' <;> simp only [add] <;> omega
/-- Sums of positive numbers are positive. -/
theorem sg_add {a b : Q2} (ha : a.sg = 1) (hb : b.sg = 1) : (add a b).sg = 1 := by
  rcases pos_cases ha with ⟨h1, h2⟩ | ⟨h1, h2⟩ <;> rcases pos_cases hb with ⟨g1, g2⟩ | ⟨g1, g2⟩
  · unfold nm at h1 g1
    have := sum_lt (p := a.x) (q := a.y) (p' := b.x) (q' := b.y) (by omega) h2 (by omega) g2
    exact pos_mk (Or.inl ⟨by simp only [nm, add]; omega, by simp only [add]; omega⟩)
  · exact mixed h1 h2 g1 g2
  · rw [add_comm]; exact mixed g1 g2 h1 h2
  · unfold nm at h1 g1
    have := sum_lt2 (p := a.x) (q := a.y) (p' := b.x) (q' := b.y) (by omega) h2 (by omega) g2
    exact pos_mk (Or.inr ⟨by simp only [nm, add]; omega, by simp only [add]; omega⟩)
theorem sg_cases (a : Q2) : a.sg = 0 ∨ a.sg = 1 ∨ a.sg = -1 := by
  unfold sg; split
  · have := Int.sign_trichotomy a.x; omega
  · split
    · have := Int.sign_trichotomy a.y; omega
    · exact Or.inl rfl
theorem sg_double (a : Q2) : (smul 2 a).sg = a.sg := by
  have e : smul 2 a = mul ⟨2, 0⟩ a := by apply ext' <;> simp [smul, mul]
  rw [e, sg_mul]
  have : (⟨2, 0⟩ : Q2).sg = 1 := by decide
  rw [this]; omega
/-- Where a² > b² the sign of a + b is that of a. -/
theorem sg_add_of_sq {a b : Q2} (h : (add (mul a a) (neg (mul b b))).sg = 1) : (add a b).sg = a.sg := by
  have e : add (mul a a) (neg (mul b b)) = mul (add a b) (add a (neg b)) := by
    apply ext' <;> simp only [add, mul, neg] <;> grind
  rw [e, sg_mul] at h
  have e2 : smul 2 a = add (add a b) (add a (neg b)) := by
    apply ext' <;> simp only [add, smul, neg] <;> omega
  have hd := sg_double a
  rcases sg_cases (add a b) with h0 | h0 | h0 <;> rcases sg_cases (add a (neg b)) with g0 | g0 | g0 <;> rw [h0, g0] at h <;> (try omega)
  · rw [e2, sg_add h0 g0] at hd; omega
  · have n1 : (add a b).neg.sg = 1 := by rw [sg_negate, h0]; rfl
    have n2 : (add a (neg b)).neg.sg = 1 := by rw [sg_negate, g0]; rfl
    have e3 : add (add a b).neg (add a (neg b)).neg = (smul 2 a).neg := by
      apply ext' <;> simp only [add, smul, neg] <;> omega
    have := sg_add n1 n2
    rw [e3, sg_negate, hd] at this
    omega
/-- No square is three times a square. -/
theorem no3q {a b : Q2} (h : mul a a = smul 3 (mul b b)) : a = ⟨0, 0⟩ ∧ b = ⟨0, 0⟩ := by
  have hx : a.x * a.x + 2 * (a.y * a.y) = 3 * (b.x * b.x + 2 * (b.y * b.y)) := congrArg Q2.x h
  have hy : a.x * a.y + a.y * a.x = 3 * (b.x * b.y + b.y * b.x) := congrArg Q2.y h
  have hN : (a.nm) * (a.nm) = (3 * b.nm) * (3 * b.nm) := by
    have e1 : a.nm * a.nm = (a.x * a.x + 2 * (a.y * a.y)) * (a.x * a.x + 2 * (a.y * a.y)) - 2 * ((a.x * a.y + a.y * a.x) * (a.x * a.y + a.y * a.x)) := by unfold nm; grind
    rw [e1, hx, hy]; unfold nm; grind
  have hpm : a.nm = 3 * b.nm ∨ a.nm = -(3 * b.nm) := by
    have : (a.nm - 3 * b.nm) * (a.nm + 3 * b.nm) = 0 := by grind
    rcases Int.mul_eq_zero.1 this with h | h
    · left; omega
    · right; omega
  rcases hpm with h1 | h1
  · unfold nm at h1
    obtain ⟨e1, e2⟩ := no3 a.x.natAbs a.x b.x (Nat.le_refl _) (by omega)
    obtain ⟨e3, e4⟩ := no3 a.y.natAbs a.y b.y (Nat.le_refl _) (by omega)
    exact ⟨ext' e1 e3, ext' e2 e4⟩
  · unfold nm at h1
    obtain ⟨e1, e2⟩ := no6 a.x.natAbs a.x b.y (Nat.le_refl _) (by omega)
    have hk : 2 * (a.y * a.y) = 3 * (b.x * b.x) := by omega
    obtain ⟨e3, e4⟩ := no6 (2 * a.y).natAbs (2 * a.y) b.x (Nat.le_refl _) (by have e : (2 * a.y) * (2 * a.y) = 4 * (a.y * a.y) := by grind
                                                                              omega)
    exact ⟨ext' e1 (by show a.y = 0; omega), ext' e4 e2⟩
end Q2

/-- A + B root 2 + (C + D root 2) root 3. -/
structure Q4 where
  p : Q2
  q : Q2
namespace Q4
open Q2
theorem ext' {a b : Q4} (h1 : a.p = b.p) (h2 : a.q = b.q) : a = b := by cases a; cases b; simp_all
def mul (a b : Q4) : Q4 := ⟨add (Q2.mul a.p b.p) (smul 3 (Q2.mul a.q b.q)), add (Q2.mul a.p b.q) (Q2.mul a.q b.p)⟩
def nm (a : Q4) : Q2 := add (Q2.mul a.p a.p) (neg (smul 3 (Q2.mul a.q a.q)))
def sg (a : Q4) : Int := if a.nm.sg = 1 then a.p.sg else if a.nm.sg = -1 then a.q.sg else 0
theorem nm_mul (a b : Q4) : (mul a b).nm = Q2.mul a.nm b.nm := by
  apply Q2.ext' <;> simp only [nm, mul, Q2.add, Q2.mul, Q2.neg, Q2.smul] <;> grind
theorem nm_zero {a : Q4} (h : a.nm.sg = 0) : a = ⟨⟨0, 0⟩, ⟨0, 0⟩⟩ := by
  have h0 := sg_zero.1 h
  have h1 : Q2.mul a.p a.p = smul 3 (Q2.mul a.q a.q) := by
    have hx : (Q2.mul a.p a.p).x + -(smul 3 (Q2.mul a.q a.q)).x = 0 := congrArg Q2.x h0
    have hy : (Q2.mul a.p a.p).y + -(smul 3 (Q2.mul a.q a.q)).y = 0 := congrArg Q2.y h0
    apply Q2.ext' <;> omega
  obtain ⟨e1, e2⟩ := no3q h1
  exact ext' e1 e2
theorem sg_P {a : Q4} (h : a.nm.sg = 1) : a.sg = a.p.sg := by rw [sg, if_pos h]
theorem sg_N {a : Q4} (h : a.nm.sg = -1) : a.sg = a.q.sg := by rw [sg, if_neg (by omega), if_pos h]
theorem sg_three (a : Q2) : (smul 3 a).sg = a.sg := by
  have e : smul 3 a = Q2.mul ⟨3, 0⟩ a := by apply Q2.ext' <;> simp [smul, Q2.mul]
  rw [e, Q2.sg_mul]
  have : (⟨3, 0⟩ : Q2).sg = 1 := by decide
  rw [this]; omega
theorem nn_sq (a : Q2) : a = ⟨0, 0⟩ ∨ (Q2.mul a a).sg = 1 := by
  rcases sg_cases a with h | h | h
  · exact Or.inl (sg_zero.1 h)
  · right; rw [Q2.sg_mul, h]; rfl
  · right; rw [Q2.sg_mul, h]; rfl
/-- x > y, z > u, y and u not negative: x z > y u. -/
theorem mul_gt {x y z u : Q2} (h1 : (add x (neg y)).sg = 1) (h2 : (add z (neg u)).sg = 1) (hy : y = ⟨0, 0⟩ ∨ y.sg = 1) (hu : u = ⟨0, 0⟩ ∨ u.sg = 1) : (add (Q2.mul x z) (neg (Q2.mul y u))).sg = 1 := by
  -- x z - y u = (x - y)(z - u) + (x - y) u + y (z - u)
  have e : add (Q2.mul x z) (neg (Q2.mul y u)) = add (add (Q2.mul (add x (neg y)) (add z (neg u))) (Q2.mul (add x (neg y)) u)) (Q2.mul y (add z (neg u))) := by
    apply Q2.ext' <;> simp only [Q2.add, Q2.mul, Q2.neg] <;> grind
  have p1 : (Q2.mul (add x (neg y)) (add z (neg u))).sg = 1 := by rw [Q2.sg_mul, h1, h2]; rfl
  have z1 : ∀ a : Q2, add a ⟨0, 0⟩ = a := fun a => by apply Q2.ext' <;> simp [Q2.add]
  have z2 : ∀ a : Q2, Q2.mul a ⟨0, 0⟩ = ⟨0, 0⟩ := fun a => by apply Q2.ext' <;> simp [Q2.mul]
  have z3 : ∀ a : Q2, Q2.mul ⟨0, 0⟩ a = ⟨0, 0⟩ := fun a => by apply Q2.ext' <;> simp [Q2.mul]
  rw [e]
  have s1 : (add (Q2.mul (add x (neg y)) (add z (neg u))) (Q2.mul (add x (neg y)) u)).sg = 1 := by
    rcases hu with rfl | hu
    · rw [z2, z1]; exact p1
    · exact sg_add p1 (by rw [Q2.sg_mul, h1, hu]; rfl)
  rcases hy with rfl | hy
  · rw [z3, z1]; exact s1
  · exact sg_add s1 (by rw [Q2.sg_mul, h2, hy]; rfl)
theorem nn1 (a : Q2) : Q2.mul a a = ⟨0, 0⟩ ∨ (Q2.mul a a).sg = 1 := by
  rcases nn_sq a with rfl | h
  · left; rfl
  · right; exact h
theorem nn3 (a : Q2) : smul 3 (Q2.mul a a) = ⟨0, 0⟩ ∨ (smul 3 (Q2.mul a a)).sg = 1 := by
  rcases nn_sq a with rfl | h
  · left; rfl
  · right; rw [sg_three]; exact h
theorem neg_nm {a : Q4} (h : a.nm.sg = -1) : (add (smul 3 (Q2.mul a.q a.q)) (neg (Q2.mul a.p a.p))).sg = 1 := by
  have e : add (smul 3 (Q2.mul a.q a.q)) (neg (Q2.mul a.p a.p)) = a.nm.neg := by
    apply Q2.ext' <;> simp only [nm, Q2.add, Q2.neg] <;> omega
  rw [e, sg_negate, h]; rfl
theorem sg_mul (a b : Q4) : (mul a b).sg = a.sg * b.sg := by
  have hN : (mul a b).nm.sg = a.nm.sg * b.nm.sg := by rw [nm_mul, Q2.sg_mul]
  rcases sg_cases a.nm with ha | ha | ha
  · rw [nm_zero ha]
    have e : mul ⟨⟨0, 0⟩, ⟨0, 0⟩⟩ b = ⟨⟨0, 0⟩, ⟨0, 0⟩⟩ := by apply ext' <;> apply Q2.ext' <;> simp [mul, Q2.add, Q2.mul, Q2.smul]
    rw [e]; simp [sg, nm, Q2.sg, Q2.nm, Q2.add, Q2.mul, Q2.smul, Q2.neg]
  · rcases sg_cases b.nm with hb | hb | hb
    · rw [nm_zero hb]
      have e : mul a ⟨⟨0, 0⟩, ⟨0, 0⟩⟩ = ⟨⟨0, 0⟩, ⟨0, 0⟩⟩ := by apply ext' <;> apply Q2.ext' <;> simp [mul, Q2.add, Q2.mul, Q2.smul]
      rw [e]; simp [sg, nm, Q2.sg, Q2.nm, Q2.add, Q2.mul, Q2.smul, Q2.neg]
    · rw [sg_P ha, sg_P hb, sg_P (by rw [hN, ha, hb]; rfl)]
      show (add (Q2.mul a.p b.p) (smul 3 (Q2.mul a.q b.q))).sg = _
      rw [sg_add_of_sq, Q2.sg_mul]
      have := mul_gt ha hb (nn3 a.q) (nn3 b.q)
      have e : add (Q2.mul (Q2.mul a.p b.p) (Q2.mul a.p b.p)) (neg (Q2.mul (smul 3 (Q2.mul a.q b.q)) (smul 3 (Q2.mul a.q b.q)))) = add (Q2.mul (Q2.mul a.p a.p) (Q2.mul b.p b.p)) (neg (Q2.mul (smul 3 (Q2.mul a.q a.q)) (smul 3 (Q2.mul b.q b.q)))) := by
        apply Q2.ext' <;> simp only [Q2.add, Q2.mul, Q2.neg, Q2.smul] <;> grind
      rw [e]; exact this
    · rw [sg_P ha, sg_N hb, sg_N (by rw [hN, ha, hb]; rfl)]
      show (add (Q2.mul a.p b.q) (Q2.mul a.q b.p)).sg = _
      rw [sg_add_of_sq, Q2.sg_mul]
      have := mul_gt ha (neg_nm hb) (nn3 a.q) (nn1 b.p)
      have e : smul 3 (add (Q2.mul (Q2.mul a.p b.q) (Q2.mul a.p b.q)) (neg (Q2.mul (Q2.mul a.q b.p) (Q2.mul a.q b.p)))) = add (Q2.mul (Q2.mul a.p a.p) (smul 3 (Q2.mul b.q b.q))) (neg (Q2.mul (smul 3 (Q2.mul a.q a.q)) (Q2.mul b.p b.p))) := by
        apply Q2.ext' <;> simp only [Q2.add, Q2.mul, Q2.neg, Q2.smul] <;> grind
      rw [← sg_three, e]; exact this
  · rcases sg_cases b.nm with hb | hb | hb
    · rw [nm_zero hb]
      have e : mul a ⟨⟨0, 0⟩, ⟨0, 0⟩⟩ = ⟨⟨0, 0⟩, ⟨0, 0⟩⟩ := by apply ext' <;> apply Q2.ext' <;> simp [mul, Q2.add, Q2.mul, Q2.smul]
      rw [e]; simp [sg, nm, Q2.sg, Q2.nm, Q2.add, Q2.mul, Q2.smul, Q2.neg]
    · rw [sg_N ha, sg_P hb, sg_N (by rw [hN, ha, hb]; rfl)]
      show (add (Q2.mul a.p b.q) (Q2.mul a.q b.p)).sg = _
      rw [Q2.add_comm, sg_add_of_sq, Q2.sg_mul]
      have := mul_gt (neg_nm ha) hb (nn1 a.p) (nn3 b.q)
      have e : smul 3 (add (Q2.mul (Q2.mul a.q b.p) (Q2.mul a.q b.p)) (neg (Q2.mul (Q2.mul a.p b.q) (Q2.mul a.p b.q)))) = add (Q2.mul (smul 3 (Q2.mul a.q a.q)) (Q2.mul b.p b.p)) (neg (Q2.mul (Q2.mul a.p a.p) (smul 3 (Q2.mul b.q b.q)))) := by
        apply Q2.ext' <;> simp only [Q2.add, Q2.mul, Q2.neg, Q2.smul] <;> grind
      rw [← sg_three, e]; exact this
    · rw [sg_N ha, sg_N hb, sg_P (by rw [hN, ha, hb]; rfl)]
      show (add (Q2.mul a.p b.p) (smul 3 (Q2.mul a.q b.q))).sg = _
      rw [Q2.add_comm, sg_add_of_sq, sg_three, Q2.sg_mul]
      have := mul_gt (neg_nm ha) (neg_nm hb) (nn1 a.p) (nn1 b.p)
      have e : add (Q2.mul (smul 3 (Q2.mul a.q b.q)) (smul 3 (Q2.mul a.q b.q))) (neg (Q2.mul (Q2.mul a.p b.p) (Q2.mul a.p b.p))) = add (Q2.mul (smul 3 (Q2.mul a.q a.q)) (smul 3 (Q2.mul b.q b.q))) (neg (Q2.mul (Q2.mul a.p a.p) (Q2.mul b.p b.p))) := by
        apply Q2.ext' <;> simp only [Q2.add, Q2.mul, Q2.neg, Q2.smul] <;> grind
      rw [e]; exact this
end Q4
end Go.Proofs.Ytklmlodapinflaa
