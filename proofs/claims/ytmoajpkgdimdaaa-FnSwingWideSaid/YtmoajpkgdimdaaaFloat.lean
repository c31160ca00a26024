/- Small lemmas that every text of this seat uses: what a callee that makes memory of its own leaves of the caller's world. Floats of 32 bits: finite ones, what is taken from 0, halves; plain facts on words of bits. -/
import Derived.Test.YtmoajpkgdimdaaaRows
import Derived.WalkKit
import Derived.ProofKit
import Derived.WalkSpells
import Derived.WalkLawsBesides
import Derived.OpenShut
import Derived.Handy
import Derived.Lib.Hide
import Derived.StillTailTactics
import Derived.Laws.FloatArith
import Derived.Laws.ComplexArith
section -- a part
namespace Go.Proofs.Ytmoajpkgdimdaaa
open Go.RowKit

/-- A world with blocks of a callee's own behind it. -/
def more (w : World) (os : Array Obj) (d : Nat) : World := { w with heap := w.heap ++ os, drawn := d }

theorem more_of_below {W w1 : World} (hb : Below W.heap.size W w1) : ∃ os d, w1 = more W os d := by
  refine ⟨w1.heap.extract W.heap.size w1.heap.size, w1.drawn, ?_⟩
  obtain ⟨h1, h2, h3, h4, h5⟩ := hb
  cases w1 with
  | mk heap tape drawn os output =>
    simp only at h1 h2 h3 h4 h5
    simp only [more, World.mk.injEq]
    refine ⟨?_, h2, trivial, h1, h3⟩
    apply Array.ext_getElem?
    intro k
    rw [Array.getElem?_append]
    by_cases hk : k < W.heap.size
    · rw [if_pos hk]; exact h5 k hk
    · rw [if_neg hk, Array.getElem?_extract]
      by_cases hk2 : k < heap.size
      · rw [if_pos (by omega)]; congr 1; omega
      · rw [if_neg (by omega)]; exact Array.getElem?_eq_none (by omega)

variable {w : World} {os : Array Obj} {d : Nat}
@[simp, go_sem] theorem size_more : (more w os d).heap.size = w.heap.size + os.size := by simp [more]
theorem heap_more (n : Nat) (hn : n < w.heap.size) : (more w os d).heap[n]? = w.heap[n]? := by
  show (w.heap ++ os)[n]? = _
  rw [Array.getElem?_append, if_pos hn]
@[go_sem] theorem cell?_more (n i : Nat) (hn : n < w.heap.size) : (more w os d).cell? ⟨n, i, none⟩ = w.cell? ⟨n, i, none⟩ :=
  World.cell?_of_block (w := w) (heap_more n hn)
@[go_sem] theorem frozen?_more (n i : Nat) (hn : n < w.heap.size) : (more w os d).frozen? ⟨n, i, none⟩ = w.frozen? ⟨n, i, none⟩ :=
  World.frozen?_of_block (w := w) (heap_more n hn)
@[go_sem] theorem setCell_more (n i : Nat) (v : Value) (hn : n < w.heap.size) : (more w os d).setCell ⟨n, i, none⟩ v = more (w.setCell ⟨n, i, none⟩ v) os d := by
  unfold World.setCell more
  congr 1
  apply Array.ext_getElem?
  intro k
  simp only [Array.getElem?_modify, Array.getElem?_append, Array.size_modify]
  by_cases hk : n = k
  · subst hk; simp [hn]
  · simp [hk]
@[go_sem] theorem drew_more : more w.drew os d = more w os d := rfl
@[go_sem] theorem more_drew : (more w os d).drew = more w os (d + 1) := rfl
@[go_sem] theorem more_more (os' : Array Obj) (d' : Nat) : more (more w os d) os' d' = more w (os ++ os') d' := by simp [more, Array.append_assoc]
@[go_sem] theorem lt_deep1 (a b c : Nat) (hlt : a < b) : a < b + c := by omega
@[go_sem] theorem lt_deep2 (a b c d : Nat) (hlt : a < b) : a < b + c + d := by omega
@[go_sem] theorem lt_deep3 (a b c d e : Nat) (hlt : a < b) : a < b + c + d + e := by omega
@[go_sem] theorem lt_deep4 (a b c d e f : Nat) (hlt : a < b) : a < b + c + d + e + f := by omega
@[go_sem] theorem lt_deep5 (a b c d e f g : Nat) (hlt : a < b) : a < b + c + d + e + f + g := by omega
@[go_sem] theorem lt_deep6 (a b c d e f g h : Nat) (hlt : a < b) : a < b + c + d + e + f + g + h := by omega
@[go_sem] theorem lt_deep7 (a b c d e f g h i : Nat) (hlt : a < b) : a < b + c + d + e + f + g + h + i := by omega
@[go_sem] theorem lt_deep8 (a b c d e f g h i j : Nat) (hlt : a < b) : a < b + c + d + e + f + g + h + i + j := by omega

theorem more_self (w : World) : w = more w #[] w.drawn := by cases w; simp [more]

theorem below_more {B : Nat} {a : World} (h : Below B a w) (hB : B ≤ w.heap.size) (os : Array Obj) (d : Nat) : Below B a (more w os d) :=
  h.trans ⟨rfl, rfl, rfl, by rw [size_more]; omega, fun k hk => heap_more k (by omega)⟩

theorem ret_int {k : IntKind} {a b : Int} (h : a = b) : Ending.returned (.int k a) = .returned (.int k b) := by rw [h]
theorem more_alloc (o : Obj) : (more w os d).alloc o = more w (os.push o) d := by simp [more, World.alloc]

/-- A world with blocks behind it, whatever they are. -/
def IsMore (w w' : World) : Prop := ∃ os d, w' = more w os d
theorem IsMore.refl (w : World) : IsMore w w := ⟨#[], w.drawn, more_self w⟩
theorem IsMore.alloc {w w' : World} (h : IsMore w w') (o : Obj) : IsMore w (w'.alloc o) := by
  obtain ⟨os, d, rfl⟩ := h; exact ⟨_, _, more_alloc o⟩
theorem IsMore.more {w w' : World} (h : IsMore w w') (os : Array Obj) (d : Nat) : IsMore w (more w' os d) := by
  obtain ⟨os', d', rfl⟩ := h; exact ⟨_, _, more_more os d⟩
theorem IsMore.drew {w w' : World} (h : IsMore w w') : IsMore w w'.drew := by
  obtain ⟨os, d, rfl⟩ := h; exact ⟨_, _, rfl⟩

/-- A region whose last operations are forced, in the world behind its draw by that name. -/
theorem still_tail {P : Program} {id : Nat} {Q : Exit → Act → World → Prop} {a : Act} {w : World} {l : List Oper} (n : Nat) (hm : P.follows .mixedOrders = true) (hB : Region.lexTailB .any l.toArray n = true)
    (h : wpStill P l.toArray w.drew (fun a' => wpList P l.toArray Q (l.drop n) a' w.drew) (l.take n) a) : (Code.region id l.toArray true).wp P Q a w :=
  wp_region_still_tail n hm hB h

/-- A number lies between two others, as a Bool under a name. -/
def inB (n lo hi : Int) : Bool := decide (lo ≤ n ∧ n ≤ hi)
theorem inB_iff {n lo hi : Int} : inB n lo hi = true ↔ lo ≤ n ∧ n ≤ hi := by simp [inB]

theorem within_any (n lo hi : Int) (w : World) :
    Calls Try.prog 16 #[.int .i64 n, .int .i64 lo, .int .i64 hi] w fun e w' => e = .returned (.bool (inB n lo hi)) ∧ w = w' := by
  by_cases h1 : lo ≤ n <;> by_cases h2 : n ≤ hi
  all_goals
    go_enter Try.func16, Try.ntmps16
    go_wp2
    go_ret
    simp [inB, *]

theorem l6In_any (n lo hi : Int) (w : World) :
    Calls Try.prog 19 #[.int .i64 n, .int .i64 lo, .int .i64 hi] w fun e w' => e = .returned (.bool (inB n lo hi)) ∧ w = w' := by
  by_cases h1 : lo ≤ n <;> by_cases h2 : n ≤ hi
  all_goals
    go_enter Try.func19, Try.ntmps19
    go_wp2
    go_ret
    simp [inB, *]

end Go.Proofs.Ytmoajpkgdimdaaa
end
section -- a part
namespace Go.Proofs.Ytmoajpkgdimdaaa
open Go.RowKit

/-- A word of 32 bits that stands for a finite number. -/
def Fin32 (x : Nat) : Prop := x < 4294967296 ∧ x % 2147483648 < 2139095040

theorem read32 (x : Nat) : Ieee.single.read x =
    if x % 2147483648 < 8388608 then .number (x / 2147483648 % 2 == 1) (x % 2147483648) (-149)
    else if x % 2147483648 < 2139095040 then .number (x / 2147483648 % 2 == 1) (8388608 + x % 2147483648 % 8388608) (-149 + (x % 2147483648 / 8388608 - 1 : Nat))
    else if x % 2147483648 = 2139095040 then .infinity (x / 2147483648 % 2 == 1)
    else .nan (x / 2147483648 % 2 == 1) (x % 2147483648 - 2139095040) := rfl

theorem mod_mod31 (x : Nat) : x % 2147483648 % 8388608 = x % 8388608 := by omega

/-- A finite word's number. -/
theorem fin_read {x : Nat} (h : Fin32 x) : ∃ m k : Nat, Ieee.single.read x = .number (x / 2147483648 % 2 == 1) m (-149 + k) ∧ k ≤ 253 ∧ m < 16777216 ∧
    ((k = 0 ∧ m < 16777216 ∧ x % 2147483648 = m) ∨ (8388608 ≤ m ∧ x % 2147483648 = k * 8388608 + m)) := by
  rw [read32]
  by_cases h1 : x % 2147483648 < 8388608
  · rw [if_pos h1]
    exact ⟨x % 2147483648, 0, by simp, by omega, by omega, Or.inl ⟨rfl, by omega, rfl⟩⟩
  · rw [if_neg h1, if_pos h.2]
    refine ⟨8388608 + x % 2147483648 % 8388608, x % 2147483648 / 8388608 - 1, rfl, ?_, by omega, Or.inr ⟨by omega, by omega⟩⟩
    have := h.2; omega

/-- What a word is when taken from 0. -/
def neg0 (x : Nat) : Nat := if x % 2147483648 = 0 then 0 else if x < 2147483648 then x + 2147483648 else x - 2147483648
theorem neg0_fin {x : Nat} (h : Fin32 x) : Fin32 (neg0 x) := by
  unfold neg0 Fin32 at *; split
  · omega
  · split <;> omega
theorem neg0_neg0 {x : Nat} (h : Fin32 x) (hx : x % 2147483648 ≠ 0) : neg0 (neg0 x) = x := by
  unfold neg0 Fin32 at *; rw [if_neg hx]; split <;> rw [if_neg (by omega)] <;> split <;> omega

theorem shl (m k : Nat) : m <<< k = m * 2 ^ k := Nat.shiftLeft_eq m k
theorem log2_mul_pow {m : Nat} (hm : m ≠ 0) (k : Nat) : (m * 2 ^ k).log2 = m.log2 + k := by
  have h1 : 2 ^ m.log2 ≤ m := Nat.log2_self_le hm
  have h2 : m < 2 ^ (m.log2 + 1) := Nat.lt_log2_self
  have hne : m * 2 ^ k ≠ 0 := Nat.mul_ne_zero hm (Nat.ne_of_gt (Nat.two_pow_pos k))
  apply (Nat.log2_eq_iff hne).2
  refine ⟨?_, ?_⟩
  · rw [Nat.pow_add]; exact Nat.mul_le_mul_right _ h1
  · rw [show m.log2 + k + 1 = m.log2 + 1 + k by omega, Nat.pow_add]; exact Nat.mul_lt_mul_of_pos_right h2 (Nat.two_pow_pos k)

/-- The nearest word of a number that the format has. -/
theorem nearest32 (neg : Bool) (m k : Nat) (hm : m ≠ 0) (h : (k = 0 ∧ m < 16777216) ∨ (8388608 ≤ m ∧ m < 16777216)) (hk : k ≤ 253) :
    Ieee.single.nearest neg (m * 2 ^ k) (-149) = (if neg then 2147483648 else 0) + (k * 8388608 + m) := by
  have hlog : m.log2 ≤ 23 := by
    have : m < 2 ^ 24 := by omega
    have := (Nat.log2_lt hm).2 this; omega
  have hne : m * 2 ^ k ≠ 0 := Nat.mul_ne_zero hm (Nat.ne_of_gt (Nat.two_pow_pos k))
  have hl2 := log2_mul_pow hm k
  have hlast : max ((-149 : Int) + ((m * 2 ^ k).log2 : Nat) - 23) (-149) = -149 + k := by
    rw [hl2]
    rcases h with ⟨rfl, h⟩ | ⟨h1, h2⟩
    · omega
    · have : m.log2 = 23 := by
        have : 23 ≤ m.log2 := (Nat.le_log2 hm).2 (by omega)
        omega
      omega
  unfold Ieee.Format.nearest
  rw [if_neg hne]
  show Ieee.single.word neg (min (((max ((-149 : Int) + ((m * 2 ^ k).log2 : Nat) - 23) (-149)) - (-149)).toNat * 8388608 + Ieee.Toward.even.cut neg ((m * 2 ^ k) <<< ((-149 : Int) - (max ((-149 : Int) + ((m * 2 ^ k).log2 : Nat) - 23) (-149))).toNat) ((max ((-149 : Int) + ((m * 2 ^ k).log2 : Nat) - 23) (-149)) - (-149)).toNat) 2139095040) = _
  rw [hlast]
  have e1 : ((-149 : Int) + k - (-149)).toNat = k := by omega
  have e2 : ((-149 : Int) - (-149 + k)).toNat = 0 := by omega
  rw [e1, e2]
  have hcut : Ieee.Toward.even.cut neg ((m * 2 ^ k) <<< 0) k = m := by
    unfold Ieee.Toward.cut
    simp only [Nat.shiftLeft_zero]
    have hmin : min k ((m * 2 ^ k).log2 + 2) = k := by rw [hl2]; omega
    have hgap : (1 : Nat) <<< min k ((m * 2 ^ k).log2 + 2) = 2 ^ k := by rw [hmin, shl, Nat.one_mul]
    have hd : m * 2 ^ k / 2 ^ k = m := Nat.mul_div_cancel _ (Nat.two_pow_pos k)
    have hr : m * 2 ^ k % 2 ^ k = 0 := Nat.mul_mod_left _ _
    have hp := Nat.two_pow_pos k
    simp only [hgap, hd, hr, Nat.mul_zero, Nat.not_lt_zero, decide_false, Bool.false_or]
    have hb : (2 ^ k == 0) = false := by rw [beq_eq_false_iff_ne]; omega
    rw [hb]; rfl
  rw [hcut]
  have hle : k * 8388608 + m < 2139095040 := by omega
  rw [Nat.min_eq_left (by omega)]
  unfold Ieee.Format.word
  cases neg
  · simp
  · show 2147483648 + _ = _; simp

/-- What is taken from 0. -/
theorem sub0 {x : Nat} (h : Fin32 x) : Ieee.single.sub 0 x = some (neg0 x) := by
  obtain ⟨m, k, hr, hk, hm, hx⟩ := fin_read h
  have h0 : Ieee.single.read 0 = .number false 0 (-149) := by decide +kernel
  unfold Ieee.Format.sub
  rw [hr, h0]
  have hb : min (-149 : Int) (-149 + k) = -149 := by omega
  have ek : ((-149 : Int) + k - (-149)).toNat = k := by omega
  simp only [Ieee.Datum.opposite, Ieee.Datum.sum, hb, ek, Option.map_some]
  have e0 : Ieee.signed false 0 ((-149 : Int) - (-149)).toNat = 0 := by decide +kernel
  rw [e0, Int.zero_add]
  congr 1
  show Ieee.single.nearest _ _ _ = _
  by_cases hm0 : m = 0
  · subst hm0
    have hz : x % 2147483648 = 0 := by omega
    have es : ∀ b : Bool, Ieee.signed b 0 k = 0 := by intro b; cases b <;> simp [Ieee.signed, shl]
    rw [es]
    simp [Ieee.Format.nearest, neg0, hz, Ieee.Format.word]
  · have hpos : 0 < m * 2 ^ k := Nat.mul_pos (by omega) (Nat.two_pow_pos k)
    have hxlt := h.1
    by_cases hs : x < 2147483648
    · have hd : (x / 2147483648 % 2 == 1) = false := by rw [show x / 2147483648 = 0 by omega]; rfl
      rw [hd]
      have et : Ieee.signed (!false) m k = -((m * 2 ^ k : Nat) : Int) := by simp [Ieee.signed, shl]
      rw [et]
      rw [if_neg (by omega), Int.natAbs_neg, Int.natAbs_natCast, decide_eq_true (by omega)]
      rw [nearest32 true m k hm0 (by omega) hk]
      unfold neg0
      rw [if_neg (show ¬ x % 2147483648 = 0 by omega), if_pos hs]; simp; omega
    · have hd : (x / 2147483648 % 2 == 1) = true := by rw [show x / 2147483648 = 1 by omega]; rfl
      rw [hd]
      have et : Ieee.signed (!true) m k = ((m * 2 ^ k : Nat) : Int) := by simp [Ieee.signed, shl]
      rw [et]
      rw [if_neg (by omega), Int.natAbs_natCast, decide_eq_false (by omega)]
      rw [nearest32 false m k hm0 (by omega) hk]
      unfold neg0
      rw [if_neg (show ¬ x % 2147483648 = 0 by omega), if_neg hs]; simp; omega

/-! Halves. -/
def two32 : Nat := 1073741824
/-- Half of a word. -/
def half (x : Nat) : Nat := (Ieee.single.div x 1073741824).getD 0

theorem cut_le (neg : Bool) (n drop b : Nat) (hd : b ≤ drop) (hb : b ≤ n.log2 + 2) : Ieee.Toward.even.cut neg n drop ≤ n / 2 ^ b + 1 := by
  unfold Ieee.Toward.cut
  have hmin : b ≤ min drop (n.log2 + 2) := by omega
  have h1 : (1 : Nat) <<< min drop (n.log2 + 2) = 2 ^ min drop (n.log2 + 2) := by rw [shl, Nat.one_mul]
  simp only [h1]
  have h2 : 2 ^ b ≤ 2 ^ min drop (n.log2 + 2) := Nat.pow_le_pow_right (by omega) hmin
  have h3 : n / 2 ^ min drop (n.log2 + 2) ≤ n / 2 ^ b := Nat.div_le_div_left h2 (Nat.two_pow_pos b)
  have h4 : ∀ b : Bool, b.toNat ≤ 1 := by intro b; cases b <;> decide
  exact Nat.add_le_add h3 (h4 _)

theorem nearest_zero (s : Bool) (place : Int) : Ieee.single.nearest s 0 place = Ieee.single.word s 0 := by unfold Ieee.Format.nearest; rw [if_pos rfl]
theorem nearest_def (s : Bool) (mag : Nat) (place : Int) (h : mag ≠ 0) : ∃ L C : Nat, L = (max (place + (mag.log2 : Nat) - 23) (-149) - (-149)).toNat ∧
    C = Ieee.Toward.even.cut s (mag <<< (place - max (place + (mag.log2 : Nat) - 23) (-149)).toNat) (max (place + (mag.log2 : Nat) - 23) (-149) - place).toNat ∧ Ieee.single.nearest s mag place = Ieee.single.word s (min (L * 8388608 + C) 2139095040) := by
  refine ⟨_, _, rfl, rfl, ?_⟩
  unfold Ieee.Format.nearest
  rw [if_neg h]
  rfl
theorem word_fin (s : Bool) (y : Nat) (h : y < 2139095040) : Ieee.single.word s y % 2147483648 < 2139095040 := by
  have hlt : y < 2147483648 := by omega
  cases s
  · show y % 2147483648 < _
    rw [Nat.mod_eq_of_lt hlt]; exact h
  · show (2147483648 + y) % 2147483648 < _
    rw [Nat.add_mod_left, Nat.mod_eq_of_lt hlt]; exact h
theorem nearest_fin (s : Bool) (mag : Nat) (place : Int) (hl : mag.log2 = 26) (hlt : mag < 134217728) (hp : place ≤ 100) : Ieee.single.nearest s mag place % 2147483648 < 2139095040 := by
  have hmag : mag ≠ 0 := by intro h; rw [h] at hl; revert hl; decide +kernel
  obtain ⟨L, C, hL, hC, he⟩ := nearest_def s mag place hmag
  rw [he]
  rw [hl] at hL hC
  have e1 : (place - max (place + ((26 : Nat) : Int) - 23) (-149)).toNat = 0 := by omega
  rw [e1, Nat.shiftLeft_zero] at hC
  have hc := cut_le s mag (max (place + ((26 : Nat) : Int) - 23) (-149) - place).toNat 3 (by omega) (by omega)
  rw [← hC] at hc
  have e8 : (2 : Nat) ^ 3 = 8 := by decide +kernel
  rw [e8] at hc
  have hL2 : L ≤ 252 := by omega
  have h8 : mag / 8 < 16777216 := by omega
  clear hL hC hl he e1 hmag
  have hsum : L * 8388608 + C < 2139095040 := by omega
  have hmin : min (L * 8388608 + C) 2139095040 < 2139095040 := Nat.lt_of_le_of_lt (Nat.min_le_left _ _) hsum
  generalize min (L * 8388608 + C) 2139095040 = y at hmin
  exact word_fin s y hmin

theorem half_some {x : Nat} (h : Fin32 x) : Ieee.single.div x 1073741824 = some (half x) ∧ Fin32 (half x) ∧ (x % 2147483648 = 0 → half x % 2147483648 = 0) := by
  obtain ⟨m, k, hr, hk, hm, hx⟩ := fin_read h
  have h0 : Ieee.single.read 1073741824 = .number false 8388608 (-22) := by decide +kernel
  have hdiv : ∃ s mag place, Ieee.single.div x 1073741824 = some (Ieee.single.nearest s mag place) ∧ (m = 0 → mag = 0) ∧ (m ≠ 0 → mag.log2 = 26 ∧ mag < 134217728 ∧ place ≤ -149 + (k : Int) - 27 + (m.log2 : Int)) := by
    refine ⟨(x / 2147483648 % 2 == 1) ^^ false, 2 * (m <<< (25 + (8388608 : Nat).log2 - m.log2) / 8388608) + (m <<< (25 + (8388608 : Nat).log2 - m.log2) % 8388608 != 0).toNat, (-149 + (k : Int)) - (-22) - (25 + (8388608 : Nat).log2 - m.log2 : Nat) - 1, ?_, ?_, ?_⟩
    · unfold Ieee.Format.div
      rw [hr, h0]
      rfl
    · intro hm0; subst hm0; simp [shl]
    · intro hm0
      have hl23 : (8388608 : Nat).log2 = 23 := by decide +kernel
      have hlog : m.log2 ≤ 23 := by
        have : m < 2 ^ 24 := by omega
        have := (Nat.log2_lt hm0).2 this; omega
      rw [hl23]
      have e1 : m <<< (25 + 23 - m.log2) = m * 2 ^ (25 - m.log2) * 8388608 := by
        rw [shl, show 25 + 23 - m.log2 = (25 - m.log2) + 23 by omega, Nat.pow_add, ← Nat.mul_assoc]
      rw [e1, Nat.mul_div_cancel _ (by omega), Nat.mul_mod_left]
      have e2 : 2 * (m * 2 ^ (25 - m.log2)) + ((0 : Nat) != 0).toNat = m * 2 ^ (26 - m.log2) := by
        rw [show 26 - m.log2 = (25 - m.log2) + 1 by omega, Nat.pow_succ]
        show 2 * (m * 2 ^ (25 - m.log2)) + 0 = _
        rw [Nat.add_zero, ← Nat.mul_assoc, Nat.mul_comm 2, Nat.mul_assoc]
        rw [Nat.mul_comm _ 2, Nat.mul_left_comm]
      rw [e2]
      refine ⟨?_, ?_, ?_⟩
      · rw [log2_mul_pow hm0]; omega
      · have h1 : m < 2 ^ (m.log2 + 1) := Nat.lt_log2_self
        have h2 : m * 2 ^ (26 - m.log2) < 2 ^ (m.log2 + 1) * 2 ^ (26 - m.log2) := Nat.mul_lt_mul_of_pos_right h1 (Nat.two_pow_pos _)
        rw [← Nat.pow_add, show m.log2 + 1 + (26 - m.log2) = 27 by omega] at h2
        have e27 : (2 : Nat) ^ 27 = 134217728 := by decide +kernel
        rw [e27] at h2; exact h2
      · omega
  obtain ⟨s, mag, place, hd, hz, hn⟩ := hdiv
  have hh : half x = Ieee.single.nearest s mag place := by unfold half; rw [hd]; rfl
  refine ⟨by rw [hd, hh], ⟨?_, ?_⟩, ?_⟩
  · rw [hh]; exact Ieee.Format.nearest_lt Ieee.single s mag place
  · rw [hh]
    by_cases hm0 : m = 0
    · rw [hz hm0, nearest_zero]; cases s <;> decide +kernel
    · obtain ⟨hl, hlt, hp⟩ := hn hm0
      have hlog : m.log2 ≤ 23 := by
        have : m < 2 ^ 24 := by omega
        have := (Nat.log2_lt hm0).2 this; omega
      exact nearest_fin s mag place hl hlt (by omega)
  · intro hx0
    have hm0 : m = 0 := by omega
    rw [hh, hz hm0, nearest_zero]; cases s <;> decide +kernel

end Go.Proofs.Ytmoajpkgdimdaaa
end
