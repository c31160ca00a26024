/- One number lies below a sum that begins with a greater one. -/
import Derived.Test.YthhdmokocddeiaaKit
namespace Go.Proofs.Ythhdmokocddeiaa

@[go_sem] theorem lt_deep9 (a b c0 c1 c2 c3 c4 c5 c6 c7 c8 : Nat) (hlt : a < b) : a < b + c0 + c1 + c2 + c3 + c4 + c5 + c6 + c7 + c8 := by omega
@[go_sem] theorem lt_deep10 (a b c0 c1 c2 c3 c4 c5 c6 c7 c8 c9 : Nat) (hlt : a < b) : a < b + c0 + c1 + c2 + c3 + c4 + c5 + c6 + c7 + c8 + c9 := by omega
@[go_sem] theorem lt_deep11 (a b c0 c1 c2 c3 c4 c5 c6 c7 c8 c9 c10 : Nat) (hlt : a < b) : a < b + c0 + c1 + c2 + c3 + c4 + c5 + c6 + c7 + c8 + c9 + c10 := by omega
@[go_sem] theorem lt_deep12 (a b c0 c1 c2 c3 c4 c5 c6 c7 c8 c9 c10 c11 : Nat) (hlt : a < b) : a < b + c0 + c1 + c2 + c3 + c4 + c5 + c6 + c7 + c8 + c9 + c10 + c11 := by omega
@[go_sem] theorem lt_deep13 (a b c0 c1 c2 c3 c4 c5 c6 c7 c8 c9 c10 c11 c12 : Nat) (hlt : a < b) : a < b + c0 + c1 + c2 + c3 + c4 + c5 + c6 + c7 + c8 + c9 + c10 + c11 + c12 := by omega
@[go_sem] theorem lt_deep14 (a b c0 c1 c2 c3 c4 c5 c6 c7 c8 c9 c10 c11 c12 c13 : Nat) (hlt : a < b) : a < b + c0 + c1 + c2 + c3 + c4 + c5 + c6 + c7 + c8 + c9 + c10 + c11 + c12 + c13 := by omega
@[go_sem] theorem lt_deep15 (a b c0 c1 c2 c3 c4 c5 c6 c7 c8 c9 c10 c11 c12 c13 c14 : Nat) (hlt : a < b) : a < b + c0 + c1 + c2 + c3 + c4 + c5 + c6 + c7 + c8 + c9 + c10 + c11 + c12 + c13 + c14 := by omega
@[go_sem] theorem lt_deep16 (a b c0 c1 c2 c3 c4 c5 c6 c7 c8 c9 c10 c11 c12 c13 c14 c15 : Nat) (hlt : a < b) : a < b + c0 + c1 + c2 + c3 + c4 + c5 + c6 + c7 + c8 + c9 + c10 + c11 + c12 + c13 + c14 + c15 := by omega
end Go.Proofs.Ythhdmokocddeiaa
