/- Swings: facts on the numbers, as the laws want them. -/
import Derived.Test.YthhdmokocddeiaaSwingC
import Derived.Test.YthhdmokocddeiaaAlike
namespace Go.Proofs.Ythhdmokocddeiaa
open Go.RowKit

/-- Two words that compare as equal: the same, or zeros. -/
def Zeq (x y : Nat) : Prop := x = y ∨ (x % 2147483648 = 0 ∧ y % 2147483648 = 0)
theorem order_zz {x y : Nat} (hx : x % 2147483648 = 0) (hy : y % 2147483648 = 0) : FloatKind.f32.format.order x y = some .eq := by
  show (Ieee.single.read x).order (Ieee.single.read y) = some .eq
  rw [read32, read32, if_pos (by omega), if_pos (by omega), hx, hy]
  generalize (x / 2147483648 % 2 == 1) = a
  generalize (y / 2147483648 % 2 == 1) = b
  cases a <;> cases b <;> decide +kernel
theorem order_zeq {x y : Nat} (h : Zeq x y) (hn : NN32 x) : FloatKind.f32.format.order x y = some .eq := by
  rcases h with rfl | ⟨h1, h2⟩
  · exact order_self32 hn
  · exact order_zz h1 h2
theorem neg0_zeq {x y : Nat} (h : Zeq x y) : Zeq (neg0 x) (neg0 y) := by
  rcases h with rfl | ⟨h1, h2⟩
  · exact Or.inl rfl
  · right; unfold neg0; rw [if_pos h1, if_pos h2]; exact ⟨rfl, rfl⟩
theorem neg0_two {x : Nat} (h : Fin32 x) : Zeq (neg0 (neg0 x)) x := by
  by_cases hx : x % 2147483648 = 0
  · right; refine ⟨?_, hx⟩; unfold neg0; rw [if_pos hx]; rfl
  · exact Or.inl (neg0_neg0 h hx)
theorem Zeq.trans {x y z : Nat} (h : Zeq x y) (h2 : Zeq y z) : Zeq x z := by
  rcases h with rfl | ⟨h1, h3⟩
  · exact h2
  · rcases h2 with rfl | ⟨h4, h5⟩
    · exact Or.inr ⟨h1, h3⟩
    · exact Or.inr ⟨h1, h5⟩
def ZeqZ (a b : Z2) : Prop := Zeq a.1 b.1 ∧ Zeq a.2 b.2
theorem tuZ4 {z : Z2} (h : FinZ z) : ZeqZ (tuZ (tuZ (tuZ (tuZ z)))) z := ⟨neg0_two h.1, neg0_two h.2⟩
theorem ZeqZ.trans {a b c : Z2} (h : ZeqZ a b) (h2 : ZeqZ b c) : ZeqZ a c := ⟨h.1.trans h2.1, h.2.trans h2.2⟩
theorem itr_four (z : Z2) (h : FinZ z) : ∀ n, ZeqZ (itr tuZ (4 * n) z) z
  | 0 => ⟨Or.inl rfl, Or.inl rfl⟩
  | n + 1 => (tuZ4 (itr_fin (fun _ => tuZ_fin) h (4 * n))).trans (itr_four z h n)
theorem itr_add (f : Z2 → Z2) (z : Z2) (a : Nat) : ∀ b, itr f (a + b) z = itr f b (itr f a z)
  | 0 => rfl
  | b + 1 => by show f (itr f (a + b) z) = f (itr f b (itr f a z)); rw [itr_add f z a b]
theorem nm_four (t : Nat) (z : Z2) (h : FinZ z) : ZeqZ (nmZ t 0 z 4) z := by
  have e : nmZ t 0 z 4 = itr tuZ (4 * t) z := by
    show itr tuZ t (itr tuZ t (itr tuZ t (itr tuZ t z))) = _
    rw [show 4 * t = t + t + t + t by omega, itr_add, itr_add, itr_add]
  rw [e]; exact itr_four z h t
theorem saZ_fin {z : Z2} {t s k : Int} (h1 : z.1 < 4294967296) (h2 : z.2 < 4294967296) : FinZ (saZ z t s k) := by
  unfold saZ
  split
  · rename_i h
    simp only [saOk, Bool.and_eq_true] at h
    obtain ⟨hz, t', s', rfl, rfl, -, -⟩ := swOk_get h1 h2 h.1
    exact nmZ_fin hz _
  · exact ⟨⟨by decide, by decide⟩, ⟨by decide, by decide⟩⟩
theorem nn_z {z : Z2} (h : FinZ z) : NN32 z.1 ∧ NN32 z.2 := ⟨h.1.nn, h.2.nn⟩
theorem swingAt2 (x y : Nat) (t s k : Int) (h1 : x < 4294967296) (h2 : y < 4294967296) (w : World) :
    Calls Try.prog 17 #[swv x y t s, .int .i64 k] w fun e w' => e = .returned (.tuple #[.complex .f32 (saZ (x, y) t s k).1 (saZ (x, y) t s k).2, .bool (saOk (x, y) t s k)]) ∧ Below w.heap.size w w' := swingAt_any (x, y) t s k h1 h2 w
end Go.Proofs.Ythhdmokocddeiaa
