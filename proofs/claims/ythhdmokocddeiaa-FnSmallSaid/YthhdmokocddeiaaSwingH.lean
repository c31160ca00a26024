/- Swings: plain laws on the first number that is 0, that has a small part. -/
import Derived.Test.YthhdmokocddeiaaSwingG
namespace Go.Proofs.Ythhdmokocddeiaa
open Go.RowKit

theorem fsF_cases (P : Nat → Bool) : ∀ m k, (fsF P m k = -1 ∧ ∀ j, k ≤ j → j < k + m → P j = false) ∨ ∃ i, k ≤ i ∧ i < k + m ∧ fsF P m k = (i : Int) ∧ P i = true ∧ ∀ j, k ≤ j → j < i → P j = false
  | 0, k => Or.inl ⟨rfl, fun j h1 h2 => by omega⟩
  | m + 1, k => by
    rcases Bool.eq_false_or_eq_true (P k) with h | h
    · exact Or.inr ⟨k, by omega, by omega, fsF_yes h, h, fun j h1 h2 => by omega⟩
    · rw [fsF_no h]
      rcases fsF_cases P m (k + 1) with ⟨h1, h2⟩ | ⟨i, h1, h2, h3, h4, h5⟩
      · exact Or.inl ⟨h1, fun j h3 h4 => by
          by_cases e : j = k
          · rw [e]; exact h
          · exact h2 j (by omega) (by omega)⟩
      · exact Or.inr ⟨i, by omega, by omega, h3, h4, fun j h6 h7 => by
          by_cases e : j = k
          · rw [e]; exact h
          · exact h5 j (by omega) (by omega)⟩
def Zz (z : Z2) : Prop := z.1 % 2147483648 = 0 ∧ z.2 % 2147483648 = 0
theorem zeroB_iff {x : Nat} (h : Fin32 x) : zeroB x = true ↔ x % 2147483648 = 0 := by unfold zeroB; rw [order_zero h]; simp
theorem pZero_iff {z : Z2} (h : FinZ z) : pZero z = true ↔ Zz z := by
  unfold pZero Zz; rw [Bool.and_eq_true, zeroB_iff h.1, zeroB_iff h.2]
theorem tuZ_zz {z : Z2} (h : Zz z) : Zz (tuZ z) := ⟨by unfold tuZ neg0; rw [if_pos h.2]; rfl, h.1⟩
theorem haZ_zz {z : Z2} (hf : FinZ z) (h : Zz z) : Zz (haZ z) := ⟨(half_some hf.1).2.2 h.1, (half_some hf.2).2.2 h.2⟩
theorem itr_zz {f : Z2 → Z2} (hf : ∀ z, FinZ z → FinZ (f z)) (hz : ∀ z, FinZ z → Zz z → Zz (f z)) {z : Z2} (h : FinZ z) (h2 : Zz z) : ∀ k, Zz (itr f k z)
  | 0 => h2
  | k + 1 => hz _ (itr_fin hf h k) (itr_zz hf hz h h2 k)
theorem stZ_zz {t s : Nat} {z : Z2} (h : FinZ z) (h2 : Zz z) : Zz (stZ t s z) :=
  itr_zz (fun _ => haZ_fin) (fun _ => haZ_zz) (itr_fin (fun _ => tuZ_fin) h t) (itr_zz (fun _ => tuZ_fin) (fun _ _ => tuZ_zz) h h2 t) s
theorem nmZ_zz {t s : Nat} {z : Z2} (h : FinZ z) {k : Nat} (h2 : Zz (nmZ t s z k)) : ∀ j, Zz (nmZ t s z (k + j))
  | 0 => h2
  | j + 1 => stZ_zz (nmZ_fin h (k + j)) (nmZ_zz h h2 j)
theorem zeroB_eq {x : Nat} (h : zeroB x = true) : FloatKind.f32.format.order x 0 = some .eq := by simpa [zeroB] using h
theorem saZ_nat {x y t s k : Nat} (hok : swOk x y t s = true) (hk : k ≤ 400) : saOk (x, y) (t : Int) (s : Int) (k : Int) = true ∧ saZ (x, y) (t : Int) (s : Int) (k : Int) = nmZ t s (x, y) k := by
  have e : saOk (x, y) (t : Int) (s : Int) (k : Int) = true := by rw [saOk, Bool.and_eq_true]; exact ⟨hok, inB_iff.2 ⟨by omega, by omega⟩⟩
  exact ⟨e, by rw [saZ, if_pos e]; rfl⟩
/-- What the law of rest asks. -/
theorem rest_facts {x y : Nat} {t s : Int} (hx : x < 4294967296) (hy : y < 4294967296) (h : swOk x y t s = true) :
    frV pZero (x, y) t s = -1 ∨ ∃ k : Nat, k ≤ 400 ∧ frV pZero (x, y) t s = (k : Int) ∧ saOk (x, y) t s k = true ∧ saOk (x, y) t s 400 = true ∧
      pZero (saZ (x, y) t s k) = true ∧ pZero (saZ (x, y) t s 400) = true ∧ (k = 0 ∧ saOk (x, y) t s ((k : Int) - 1) = false ∨ saOk (x, y) t s ((k : Int) - 1) = true ∧ pZero (saZ (x, y) t s ((k : Int) - 1)) = false) := by
  obtain ⟨hz, t', s', rfl, rfl, ht, hs⟩ := swOk_get (z := (x, y)) hx hy h
  have hfr : frV pZero (x, y) (t' : Int) (s' : Int) = fsF (fun k => pZero (nmZ t' s' (x, y) k)) 401 0 := by rw [frV, if_pos h]; rfl
  rw [hfr]
  rcases fsF_cases (fun k => pZero (nmZ t' s' (x, y) k)) 401 0 with ⟨h1, -⟩ | ⟨k, -, h2, h3, h4, h5⟩
  · exact Or.inl h1
  · right
    have hk : k ≤ 400 := by omega
    have a1 := saZ_nat (k := k) h hk
    have a2 := saZ_nat (k := 400) h (Nat.le_refl _)
    have hzk := (pZero_iff (nmZ_fin hz k)).1 h4
    have hz4 := nmZ_zz hz hzk (400 - k)
    rw [show k + (400 - k) = 400 by omega] at hz4
    refine ⟨k, hk, h3, a1.1, a2.1, ?_, ?_, ?_⟩
    · rw [a1.2]; exact h4
    · rw [show ((400 : Int)) = ((400 : Nat) : Int) from rfl, a2.2]; exact (pZero_iff (nmZ_fin hz 400)).2 hz4
    · rcases Nat.eq_zero_or_pos k with h0 | h0
      · left
        refine ⟨h0, ?_⟩
        rw [saOk, h0]
        simp [inB]
      · right
        have a3 := saZ_nat (k := k - 1) h (by omega)
        rw [show ((k - 1 : Nat) : Int) = (k : Int) - 1 by omega] at a3
        exact ⟨a3.1, by rw [a3.2]; exact h5 (k - 1) (by omega) (by omega)⟩
/-- What the law of small parts asks. -/
theorem small_facts {x y : Nat} {t s : Int} (hx : x < 4294967296) (hy : y < 4294967296) (h : swOk x y t s = true) :
    frV pTiny (x, y) t s = -1 ∨ ∃ k : Nat, k ≤ 400 ∧ frV pTiny (x, y) t s = (k : Int) ∧ saOk (x, y) t s k = true ∧ pTiny (saZ (x, y) t s k) = true ∧
      (frV pZero (x, y) t s = -1 ∨ ∃ r : Nat, frV pZero (x, y) t s = (r : Int) ∧ k < r ∧ r ≤ 400) := by
  obtain ⟨hz, t', s', rfl, rfl, ht, hs⟩ := swOk_get (z := (x, y)) hx hy h
  have hfr : frV pZero (x, y) (t' : Int) (s' : Int) = fsF (fun k => pZero (nmZ t' s' (x, y) k)) 401 0 := by rw [frV, if_pos h]; rfl
  have hft : frV pTiny (x, y) (t' : Int) (s' : Int) = fsF (fun k => pTiny (nmZ t' s' (x, y) k)) 401 0 := by rw [frV, if_pos h]; rfl
  rw [hfr, hft]
  rcases fsF_cases (fun k => pTiny (nmZ t' s' (x, y) k)) 401 0 with ⟨h1, -⟩ | ⟨k, -, h2, h3, h4, -⟩
  · exact Or.inl h1
  · right
    have hk : k ≤ 400 := by omega
    have a1 := saZ_nat (k := k) h hk
    refine ⟨k, hk, h3, a1.1, by rw [a1.2]; exact h4, ?_⟩
    rcases fsF_cases (fun k => pZero (nmZ t' s' (x, y) k)) 401 0 with ⟨h5, -⟩ | ⟨r, -, h6, h7, h8, -⟩
    · exact Or.inl h5
    · right
      refine ⟨r, h7, ?_, by omega⟩
      rcases Nat.lt_or_ge k r with hlt | hge
      · exact hlt
      · exfalso
        have hz4 := nmZ_zz hz ((pZero_iff (nmZ_fin hz r)).1 h8) (k - r)
        rw [show r + (k - r) = k by omega] at hz4
        have hp := (pZero_iff (nmZ_fin hz k)).2 hz4
        simp only [pZero, Bool.and_eq_true] at hp
        have e1 := zeroB_eq hp.1
        have e2 := zeroB_eq hp.2
        simp [pTiny, tinyB, neB, e1, e2] at h4
end Go.Proofs.Ythhdmokocddeiaa
