/- The laws' own copies and comparisons of surds. -/
import Derived.Test.YtklmlodapinflaaSurdA
namespace Go.Proofs.Ytklmlodapinflaa
open Go.RowKit

theorem eqSurd_same (a b c d : Int) (w : World) :
    Calls Try.prog 22 #[sv a b c d, sv a b c d] w fun e w' => e = .returned (.bool true) ∧ Below w.heap.size w w' := by
  go_enter Try.func22, Try.ntmps22
  go_wp2
  go_ret
  exact ⟨rfl, by repeat' (first | (with_reducible exact Below.refl _ _) | (with_reducible assumption) | (with_reducible refine Below.alloc ?_ ?_ _) | (with_reducible refine below_more ?_ ?_ _ _) | (with_reducible refine below_rd ?_ ?_ _ _) | (with_reducible refine Below.drew ?_) | (with_reducible refine Below.setCell ?_ ?_ _) | go_size)⟩
end Go.Proofs.Ytklmlodapinflaa
