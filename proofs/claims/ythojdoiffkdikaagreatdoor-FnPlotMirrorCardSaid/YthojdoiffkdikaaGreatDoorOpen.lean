/- A reader is opened. -/
import Derived.Test.YthojdoiffkdikaaGreatDoorRead
namespace Go.Proofs.YthojdoiffkdikaaGreatDoor
open Go.RowKit

/-- What an opened reader is: a new block that holds at most 2000 bytes of the code. -/
def OpenPost (w : World) (a : Option Addr) (len cap : Nat) (e : Ending) (w' : World) : Prop :=
  ∃ len' : Nat, len' ≤ len ∧ len' ≤ 2000 ∧ e = .returned (.pointer (some ⟨w.heap.size, 0, none⟩)) ∧ w' = w.alloc (rdObj (.slice a len' cap) 0)

theorem open_any (w : World) (a : Option Addr) (len cap : Nat) (hl : len ≤ 1048576) (hc : len ≤ cap) :
    Calls Tryz.prog 23 #[.slice a len cap] w (OpenPost w a len cap) := by
  by_cases h : len ≤ 2000
  · go_enter Tryz.func23, Tryz.ntmps23
    go_wp2
    go_ret
    exact ⟨len, by omega, h, rfl, rfl⟩
  · have h2 : 2000 ≤ cap := by omega
    go_enter Tryz.func23, Tryz.ntmps23
    go_wp2
    all_goals (try go_ret)
    all_goals exact ⟨2000, by omega, by omega, rfl, rfl⟩
end Go.Proofs.YthojdoiffkdikaaGreatDoor
