/- Rows of points: RowValid, of the program and of the reference. -/
import Derived.Test.YtklmlodapinflaaRowA
namespace Go.Proofs.Ytklmlodapinflaa
open Go.RowKit

/-- The length of a row. -/
def rwLen (n : Nat) : Bool := decide (1 ≤ n) && decide (24 % n = 0)
theorem rwLen_iff {n : Nat} : rwLen n = true ↔ 1 ≤ n ∧ 24 % n = 0 := by simp [rwLen]
theorem rwLen_le {n : Nat} (h : rwLen n = true) : 1 ≤ n ∧ n ≤ 24 := by
  obtain ⟨h1, h2⟩ := rwLen_iff.1 h
  refine ⟨h1, Classical.byContradiction fun h3 => ?_⟩
  rw [Nat.mod_eq_of_lt (by omega)] at h2; omega
/-- All points are valid. -/
def okAll (xs : List C8) : Bool := xs.all okC
def rvOk (xs : List C8) : Bool := rwLen xs.length && okAll xs
theorem okAll_iff {xs : List C8} : okAll xs = true ↔ ∀ i, i < xs.length → okC (xs.getD i C8.zero) = true := by
  unfold okAll
  rw [List.all_eq_true]
  constructor
  · intro h i hi
    apply h
    rw [List.getD_eq_getElem?_getD, List.getElem?_eq_getElem hi]; exact List.getElem_mem _
  · intro h x hx
    obtain ⟨i, hi, rfl⟩ := List.getElem_of_mem hx
    have := h i hi
    rw [List.getD_eq_getElem?_getD, List.getElem?_eq_getElem hi] at this
    exact this
theorem okAll_no {xs : List C8} {i : Nat} (hi : i < xs.length) (h : okC (xs.getD i C8.zero) = false) : okAll xs = false := by
  rcases Bool.eq_false_or_eq_true (okAll xs) with h1 | h1
  · rw [okAll_iff.1 h1 i hi] at h; cases h
  · exact h1

theorem divides_any (n : Nat) (hn : n ≤ 1048576) (w : World) :
    Calls Try.prog 98 #[.int .i64 n] w fun e w' => e = .returned (.bool (rwLen n)) ∧ w = w' := by
  by_cases h1 : 1 ≤ n
  · by_cases h2 : 24 % n = 0
    · have h3 : rwLen n = true := rwLen_iff.2 ⟨h1, h2⟩
      have h4 : ((24 : Int) % (n : Int) == 0) = true := by rw [beq_iff_eq]; exact_mod_cast h2
      have h5 : (24 : Int).tmod (n : Int) = 24 % (n : Int) := Int.tmod_eq_emod_of_nonneg (by omega)
      rw [h3]
      clear h2 h3
      go_enter Try.func98, Try.ntmps98
      go_wp2
      go_ret
      exact ⟨rfl, rfl⟩
    · have h3 : rwLen n = false := by
        rcases Bool.eq_false_or_eq_true (rwLen n) with h | h
        · exact absurd (rwLen_iff.1 h).2 h2
        · exact h
      have h4 : ((24 : Int) % (n : Int) == 0) = false := by rw [beq_eq_false_iff_ne]; exact_mod_cast h2
      have h5 : (24 : Int).tmod (n : Int) = 24 % (n : Int) := Int.tmod_eq_emod_of_nonneg (by omega)
      rw [h3]
      clear h2 h3
      go_enter Try.func98, Try.ntmps98
      go_wp2
      go_ret
      exact ⟨rfl, rfl⟩
  · obtain rfl : n = 0 := by omega
    go_enter Try.func98, Try.ntmps98
    go_wp2
    go_ret
    exact ⟨rfl, rfl⟩
theorem l6rLength_any (n : Nat) (hn : n ≤ 1048576) (w : World) :
    Calls Try.prog 97 #[.int .i64 n] w fun e w' => e = .returned (.bool (rwLen n)) ∧ w = w' := by
  by_cases h1 : 1 ≤ n
  · by_cases h0 : n ≤ 24
    · by_cases h2 : 24 % n = 0
      · have h3 : rwLen n = true := rwLen_iff.2 ⟨h1, h2⟩
        have h4 : ((24 : Int) % (n : Int) == 0) = true := by rw [beq_iff_eq]; exact_mod_cast h2
        have h5 : (24 : Int).tmod (n : Int) = 24 % (n : Int) := Int.tmod_eq_emod_of_nonneg (by omega)
        rw [h3]
        clear h2 h3
        go_enter Try.func97, Try.ntmps97
        go_wp2
        go_ret
        exact ⟨rfl, rfl⟩
      · have h3 : rwLen n = false := by
          rcases Bool.eq_false_or_eq_true (rwLen n) with h | h
          · exact absurd (rwLen_iff.1 h).2 h2
          · exact h
        have h4 : ((24 : Int) % (n : Int) == 0) = false := by rw [beq_eq_false_iff_ne]; exact_mod_cast h2
        have h5 : (24 : Int).tmod (n : Int) = 24 % (n : Int) := Int.tmod_eq_emod_of_nonneg (by omega)
        rw [h3]
        clear h2 h3
        go_enter Try.func97, Try.ntmps97
        go_wp2
        go_ret
        exact ⟨rfl, rfl⟩
    · have h3 : rwLen n = false := by
        rcases Bool.eq_false_or_eq_true (rwLen n) with h | h
        · have := rwLen_le h; omega
        · exact h
      rw [h3]
      clear h3
      go_enter Try.func97, Try.ntmps97
      go_wp2
      go_ret
      exact ⟨rfl, rfl⟩
  · obtain rfl : n = 0 := by omega
    go_enter Try.func97, Try.ntmps97
    go_wp2
    go_ret
    exact ⟨rfl, rfl⟩

end Go.Proofs.Ytklmlodapinflaa
