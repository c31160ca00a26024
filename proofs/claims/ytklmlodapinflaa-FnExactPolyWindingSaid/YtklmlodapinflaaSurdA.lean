/- Contracts of the surd functions: valid, SurdValid. -/
import Derived.Test.YtklmlodapinflaaKit
namespace Go.Proofs.Ytklmlodapinflaa
open Go.RowKit

/-- A surd as a value. -/
abbrev sv (a b c d : Int) : Value := .agg #[.int .i64 a, .int .i64 b, .int .i64 c, .int .i64 d]

def okS (a b c d : Int) : Bool := inB a (-10000000) 10000000 && inB b (-10000000) 10000000 && inB c (-10000000) 10000000 && inB d (-10000000) 10000000

/-- The five ways through a test of four numbers. -/
theorem okS_cases (a b c d : Int) :
    inB a (-10000000) 10000000 = false ∨ (inB a (-10000000) 10000000 = true ∧ inB b (-10000000) 10000000 = false) ∨
    (inB a (-10000000) 10000000 = true ∧ inB b (-10000000) 10000000 = true ∧ inB c (-10000000) 10000000 = false) ∨
    (inB a (-10000000) 10000000 = true ∧ inB b (-10000000) 10000000 = true ∧ inB c (-10000000) 10000000 = true ∧ inB d (-10000000) 10000000 = false) ∨
    (inB a (-10000000) 10000000 = true ∧ inB b (-10000000) 10000000 = true ∧ inB c (-10000000) 10000000 = true ∧ inB d (-10000000) 10000000 = true) := by
  cases inB a (-10000000) 10000000 <;> cases inB b (-10000000) 10000000 <;> cases inB c (-10000000) 10000000 <;> cases inB d (-10000000) 10000000 <;> decide

theorem valid_any (a b c d : Int) (w : World) :
    Calls Try.prog 76 #[sv a b c d] w fun e w' => e = .returned (.bool (okS a b c d)) ∧ Below w.heap.size w w' := by
  rcases okS_cases a b c d with h1 | ⟨h1, h2⟩ | ⟨h1, h2, h3⟩ | ⟨h1, h2, h3, h4⟩ | ⟨h1, h2, h3, h4⟩
  all_goals
    go_enter Try.func76, Try.ntmps76
    go_wp2_with (go_at_call 110; refine (within_any _ _ _ _).mono ?_; rintro e w' ⟨rfl, rfl⟩)
    go_ret
    refine ⟨by simp [okS, *], by repeat' (first | (with_reducible exact Below.refl _ _) | (with_reducible assumption) | (with_reducible refine Below.alloc ?_ ?_ _) | (with_reducible refine below_more ?_ ?_ _ _) | (with_reducible refine below_rd ?_ ?_ _ _) | (with_reducible refine Below.drew ?_) | (with_reducible refine Below.setCell ?_ ?_ _) | go_size)⟩

theorem specValid_any (a b c d : Int) (w : World) :
    Calls Try.prog 106 #[sv a b c d] w fun e w' => e = .returned (.bool (okS a b c d)) ∧ Below w.heap.size w w' := by
  rcases okS_cases a b c d with h1 | ⟨h1, h2⟩ | ⟨h1, h2, h3⟩ | ⟨h1, h2, h3, h4⟩ | ⟨h1, h2, h3, h4⟩
  all_goals
    go_enter Try.func106, Try.ntmps106
    go_wp2_with (go_at_call 105; refine (l6In_any _ _ _ _).mono ?_; rintro e w' ⟨rfl, rfl⟩)
    go_ret
    refine ⟨by simp [okS, *], by repeat' (first | (with_reducible exact Below.refl _ _) | (with_reducible assumption) | (with_reducible refine Below.alloc ?_ ?_ _) | (with_reducible refine below_more ?_ ?_ _ _) | (with_reducible refine below_rd ?_ ?_ _ _) | (with_reducible refine Below.drew ?_) | (with_reducible refine Below.setCell ?_ ?_ _) | go_size)⟩
end Go.Proofs.Ytklmlodapinflaa
