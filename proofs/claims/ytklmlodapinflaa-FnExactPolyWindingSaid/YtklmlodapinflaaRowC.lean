/- Sums of squares of rows of points: SurdAdd, RowSquares, of the program and of the reference. -/
import Derived.Test.YtklmlodapinflaaRowB
import Derived.Test.YtklmlodapinflaaSurdH
namespace Go.Proofs.Ytklmlodapinflaa
open Go.RowKit

def saOk (s t : S4) : Bool := okT s && okT t && okT (s.add t)
def saR (s t : S4) : S4 := if saOk s t = true then s.add t else S4.zero
theorem okT_big {s : S4} (h : okT s = true) : (-1000000000000 ≤ s.a ∧ s.a ≤ 1000000000000) ∧ (-1000000000000 ≤ s.b ∧ s.b ≤ 1000000000000) ∧ (-1000000000000 ≤ s.c ∧ s.c ≤ 1000000000000) ∧ (-1000000000000 ≤ s.d ∧ s.d ≤ 1000000000000) := by
  have := okT_lim.1 h
  unfold S4.lim at this; omega
theorem okT_S {s : S4} : okS s.a s.b s.c s.d = okT s := rfl

theorem l3Sum_one (a b c d a' b' c' d' : Int) (w : World) (h : (-1000000000000 ≤ a ∧ a ≤ 1000000000000) ∧ (-1000000000000 ≤ b ∧ b ≤ 1000000000000) ∧ (-1000000000000 ≤ c ∧ c ≤ 1000000000000) ∧ (-1000000000000 ≤ d ∧ d ≤ 1000000000000)) (h' : (-1000000000000 ≤ a' ∧ a' ≤ 1000000000000) ∧ (-1000000000000 ≤ b' ∧ b' ≤ 1000000000000) ∧ (-1000000000000 ≤ c' ∧ c' ≤ 1000000000000) ∧ (-1000000000000 ≤ d' ∧ d' ≤ 1000000000000)) :
    Calls Try.prog 79 #[sv a b c d, .int .i64 1, sv a' b' c' d'] w fun e w' => e = .returned (sv (a + a') (b + b') (c + c') (d + d')) ∧ Below w.heap.size w w' := by
  obtain ⟨⟨p1, q1⟩, ⟨p2, q2⟩, ⟨p3, q3⟩, ⟨p4, q4⟩⟩ := h
  obtain ⟨⟨p5, q5⟩, ⟨p6, q6⟩, ⟨p7, q7⟩, ⟨p8, q8⟩⟩ := h'
  go_enter Try.func79, Try.ntmps79
  go_wp2
  go_returns
  exact ⟨rfl, by repeat' (first | (with_reducible exact Below.refl _ _) | (with_reducible assumption) | (with_reducible refine Below.alloc ?_ ?_ _) | (with_reducible refine below_more ?_ ?_ _ _) | (with_reducible refine below_rd ?_ ?_ _ _) | (with_reducible refine Below.drew ?_) | (with_reducible refine Below.setCell ?_ ?_ _) | go_size)⟩



/-- The sum of the first norms, and whether it is told. -/
def sqS (xs : List C8) : Nat → S4
  | 0 => S4.zero
  | k + 1 => (sqS xs k).add (xs.getD k C8.zero).nrm
def sqG (xs : List C8) : Nat → Bool
  | 0 => true
  | k + 1 => sqG xs k && nmOk (xs.getD k C8.zero) && saOk (sqS xs k) (xs.getD k C8.zero).nrm
theorem sqG_no {xs : List C8} {k : Nat} (h : sqG xs k = false) : ∀ n, k ≤ n → sqG xs n = false
  | 0, hn => by obtain rfl : k = 0 := by omega
                exact h
  | n + 1, hn => by
    by_cases e : k = n + 1
    · subst e; exact h
    · show (sqG xs n && _ && _) = false
      rw [sqG_no h n (by omega)]; rfl
def rsOk (xs : List C8) : Bool := rvOk xs && sqG xs xs.length
def rsR (xs : List C8) : S4 := if rsOk xs = true then sqS xs xs.length else S4.zero
theorem PtAt.alloc {w : World} {b o : Nat} {x : C8} (h : PtAt w b o x) (ob : Obj) : PtAt (w.alloc ob) b o x := World.rangeAt_alloc h ob


end Go.Proofs.Ytklmlodapinflaa
