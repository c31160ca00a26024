/- The program's transforms. -/
import Derived.Test.YtklmlodapinflaaTransA
namespace Go.Proofs.Ytklmlodapinflaa
open Go.RowKit

/-- The items of a sum of a transform, the sums, and whether they are told. -/
def trF (dir : Int) (xs : List C8) (j : Nat) : Nat → C8 := fun k => (xs.getD k C8.zero).turn (trI dir xs.length j k)
def trP (dir : Int) (xs : List C8) (m : Nat) : List C8 := (List.range m).map fun j => sumP (trF dir xs j) xs.length
def trG (dir : Int) (xs : List C8) : Nat → Bool
  | 0 => true
  | j + 1 => trG dir xs j && sumV (trF dir xs j) xs.length
theorem trP_succ (dir : Int) (xs : List C8) (j : Nat) : trP dir xs (j + 1) = trP dir xs j ++ [sumP (trF dir xs j) xs.length] := by simp [trP, List.range_succ]
theorem trP_len (dir : Int) (xs : List C8) (j : Nat) : (trP dir xs j).length = j := by simp [trP]
theorem trG_no {dir : Int} {xs : List C8} {k : Nat} (h : trG dir xs k = false) : ∀ n, k ≤ n → trG dir xs n = false
  | 0, hn => by obtain rfl : k = 0 := by omega
                exact h
  | n + 1, hn => by
    by_cases e : k = n + 1
    · subst e; exact h
    · show (trG dir xs n && _) = false
      rw [trG_no h n (by omega)]; rfl
def trOk (dir : Int) (xs : List C8) : Bool := rvOk xs && trG dir xs xs.length
def trR (dir : Int) (xs : List C8) : List C8 := if trOk dir xs = true then trP dir xs xs.length else []
def trH (dir : Int) (xs : List C8) : List C8 := if trG dir xs xs.length = true then trP dir xs xs.length else []
theorem rvOk_get {xs : List C8} (h : rvOk xs = true) : (1 ≤ xs.length ∧ xs.length ≤ 24 ∧ 24 % xs.length = 0) ∧ ∀ i, i < xs.length → okC (xs.getD i C8.zero) = true := by
  simp only [rvOk, Bool.and_eq_true] at h
  have h1 := rwLen_le h.1
  exact ⟨⟨h1.1, h1.2, (rwLen_iff.1 h.1).2⟩, okAll_iff.1 h.2⟩
theorem trF_lim {dir : Int} {xs : List C8} (h : ∀ i, i < xs.length → okC (xs.getD i C8.zero) = true) (j k : Nat) (hk : k < xs.length) : C8.lim 1000000000 (trF dir xs j k) :=
  C8.lim_mono (C8.turn_bd (h k hk) _ (trI_lt _ _ _ _)) (by omega)

theorem OwnsP.from {w : World} {B B' : Nat} {v : Value} {ys : List C8} (h : OwnsP w B v ys) (hB : B' ≤ B) : OwnsP w B' v ys :=
  ⟨h.1, h.2.imp id (fun ⟨g, cap, cur, a, b, c⟩ => ⟨g, cap, cur, a, Nat.le_trans hB b, c⟩)⟩

end Go.Proofs.Ytklmlodapinflaa
