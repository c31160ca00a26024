/- Contracts: cosine, re, im, of the program; l3Re, l3Im of the reference; small. -/
import Derived.Test.YtklmlodapinflaaSurdE
import Derived.Test.YtklmlodapinflaaCycA
import Derived.Test.YtklmlodapinflaaCycE
import Derived.Test.YtklmlodapinflaaCycB
namespace Go.Proofs.Ytklmlodapinflaa
open Go.RowKit

theorem splus_any (a b c d a' b' c' d' : Int) (w : World) (h : (-1000000000000 ≤ a ∧ a ≤ 1000000000000) ∧ (-1000000000000 ≤ b ∧ b ≤ 1000000000000) ∧ (-1000000000000 ≤ c ∧ c ≤ 1000000000000) ∧ (-1000000000000 ≤ d ∧ d ≤ 1000000000000)) (h' : (-1000000000000 ≤ a' ∧ a' ≤ 1000000000000) ∧ (-1000000000000 ≤ b' ∧ b' ≤ 1000000000000) ∧ (-1000000000000 ≤ c' ∧ c' ≤ 1000000000000) ∧ (-1000000000000 ≤ d' ∧ d' ≤ 1000000000000)) :
    Calls Try.prog 82 #[sv a b c d, sv a' b' c' d'] w fun e w' => e = .returned (sv (a + a') (b + b') (c + c') (d + d')) ∧ Below w.heap.size w w' := by
  obtain ⟨⟨p1, q1⟩, ⟨p2, q2⟩, ⟨p3, q3⟩, ⟨p4, q4⟩⟩ := h
  obtain ⟨⟨p5, q5⟩, ⟨p6, q6⟩, ⟨p7, q7⟩, ⟨p8, q8⟩⟩ := h'
  go_enter Try.func82, Try.ntmps82
  go_wp2
  go_returns
  exact ⟨rfl, by repeat' (first | (with_reducible exact Below.refl _ _) | (with_reducible assumption) | (with_reducible refine Below.alloc ?_ ?_ _) | (with_reducible refine below_more ?_ ?_ _ _) | (with_reducible refine below_rd ?_ ?_ _ _) | (with_reducible refine Below.drew ?_) | (with_reducible refine Below.setCell ?_ ?_ _) | go_size)⟩
theorem sscaled_any (a b c d n : Int) (w : World) (h : (-1000000000000 ≤ n * a ∧ n * a ≤ 1000000000000) ∧ (-1000000000000 ≤ n * b ∧ n * b ≤ 1000000000000) ∧ (-1000000000000 ≤ n * c ∧ n * c ≤ 1000000000000) ∧ (-1000000000000 ≤ n * d ∧ n * d ≤ 1000000000000)) :
    Calls Try.prog 104 #[sv a b c d, .int .i64 n] w fun e w' => e = .returned (sv (n * a) (n * b) (n * c) (n * d)) ∧ Below w.heap.size w w' := by
  obtain ⟨⟨p1, q1⟩, ⟨p2, q2⟩, ⟨p3, q3⟩, ⟨p4, q4⟩⟩ := h
  go_enter Try.func104, Try.ntmps104
  go_wp2
  go_returns
  exact ⟨rfl, by repeat' (first | (with_reducible exact Below.refl _ _) | (with_reducible assumption) | (with_reducible refine Below.alloc ?_ ?_ _) | (with_reducible refine below_more ?_ ?_ _ _) | (with_reducible refine below_rd ?_ ?_ _ _) | (with_reducible refine Below.drew ?_) | (with_reducible refine Below.setCell ?_ ?_ _) | go_size)⟩
end Go.Proofs.Ytklmlodapinflaa
