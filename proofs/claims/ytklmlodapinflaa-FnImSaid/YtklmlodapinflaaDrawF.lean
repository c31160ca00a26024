/- Turns drawn; points and turns drawn. -/
import Derived.Test.YtklmlodapinflaaDrawE
namespace Go.Proofs.Ytklmlodapinflaa
open Go.RowKit

def TurnPost (w : World) (g : Nat) (v : Value) (p : Int) (e : Ending) (w' : World) : Prop := ∃ n : Int, DrawPost w g v p 3 (.int .i64 n) e w'

def DrewN (W : World) (e : Ending) (w' : World) : Prop := (∃ n : Int, e = .returned (.int .i64 n)) ∧ Below W.heap.size W w'
def DrewCN (W : World) (e : Ending) (w' : World) : Prop := (∃ (c : C8) (n : Int), e = .returned (.tuple #[cv c, .int .i64 n])) ∧ Below W.heap.size W w'

end Go.Proofs.Ytklmlodapinflaa
