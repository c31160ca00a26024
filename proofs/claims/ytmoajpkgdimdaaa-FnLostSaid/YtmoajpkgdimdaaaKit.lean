/- Small lemmas that every text of this seat uses: what a callee that makes memory of its own leaves of the caller's world. -/
import Derived.Test.YtmoajpkgdimdaaaRows
import Derived.WalkKit
import Derived.ProofKit
import Derived.WalkSpells
import Derived.WalkLawsBesides
import Derived.OpenShut
import Derived.Handy
import Derived.Lib.Hide
import Derived.StillTailTactics
namespace Go.Proofs.Ytmoajpkgdimdaaa
open Go.RowKit

/-- A world with blocks of a callee's own behind it. -/
def more (w : World) (os : Array Obj) (d : Nat) : World := { w with heap := w.heap ++ os, drawn := d }

theorem more_of_below {W w1 : World} (hb : Below W.heap.size W w1) : ∃ os d, w1 = more W os d := by
  refine ⟨w1.heap.extract W.heap.size w1.heap.size, w1.drawn, ?_⟩
  obtain ⟨h1, h2, h3, h4, h5⟩ := hb
  cases w1 with
  | mk heap tape drawn os output =>
    simp only at h1 h2 h3 h4 h5
    simp only [more, World.mk.injEq]
    refine ⟨?_, h2, trivial, h1, h3⟩
    apply Array.ext_getElem?
    intro k
    rw [Array.getElem?_append]
    by_cases hk : k < W.heap.size
    · rw [if_pos hk]; exact h5 k hk
    · rw [if_neg hk, Array.getElem?_extract]
      by_cases hk2 : k < heap.size
      · rw [if_pos (by omega)]; congr 1; omega
      · rw [if_neg (by omega)]; exact Array.getElem?_eq_none (by omega)

variable {w : World} {os : Array Obj} {d : Nat}
@[simp, go_sem] theorem size_more : (more w os d).heap.size = w.heap.size + os.size := by simp [more]
theorem heap_more (n : Nat) (hn : n < w.heap.size) : (more w os d).heap[n]? = w.heap[n]? := by
  show (w.heap ++ os)[n]? = _
  rw [Array.getElem?_append, if_pos hn]
@[go_sem] theorem cell?_more (n i : Nat) (hn : n < w.heap.size) : (more w os d).cell? ⟨n, i, none⟩ = w.cell? ⟨n, i, none⟩ :=
  World.cell?_of_block (w := w) (heap_more n hn)
@[go_sem] theorem frozen?_more (n i : Nat) (hn : n < w.heap.size) : (more w os d).frozen? ⟨n, i, none⟩ = w.frozen? ⟨n, i, none⟩ :=
  World.frozen?_of_block (w := w) (heap_more n hn)
@[go_sem] theorem setCell_more (n i : Nat) (v : Value) (hn : n < w.heap.size) : (more w os d).setCell ⟨n, i, none⟩ v = more (w.setCell ⟨n, i, none⟩ v) os d := by
  unfold World.setCell more
  congr 1
  apply Array.ext_getElem?
  intro k
  simp only [Array.getElem?_modify, Array.getElem?_append, Array.size_modify]
  by_cases hk : n = k
  · subst hk; simp [hn]
  · simp [hk]
@[go_sem] theorem drew_more : more w.drew os d = more w os d := rfl
@[go_sem] theorem more_drew : (more w os d).drew = more w os (d + 1) := rfl
@[go_sem] theorem more_more (os' : Array Obj) (d' : Nat) : more (more w os d) os' d' = more w (os ++ os') d' := by simp [more, Array.append_assoc]
@[go_sem] theorem lt_deep1 (a b c : Nat) (hlt : a < b) : a < b + c := by omega
@[go_sem] theorem lt_deep2 (a b c d : Nat) (hlt : a < b) : a < b + c + d := by omega
@[go_sem] theorem lt_deep3 (a b c d e : Nat) (hlt : a < b) : a < b + c + d + e := by omega
@[go_sem] theorem lt_deep4 (a b c d e f : Nat) (hlt : a < b) : a < b + c + d + e + f := by omega
@[go_sem] theorem lt_deep5 (a b c d e f g : Nat) (hlt : a < b) : a < b + c + d + e + f + g := by omega
@[go_sem] theorem lt_deep6 (a b c d e f g h : Nat) (hlt : a < b) : a < b + c + d + e + f + g + h := by omega
@[go_sem] theorem lt_deep7 (a b c d e f g h i : Nat) (hlt : a < b) : a < b + c + d + e + f + g + h + i := by omega
@[go_sem] theorem lt_deep8 (a b c d e f g h i j : Nat) (hlt : a < b) : a < b + c + d + e + f + g + h + i + j := by omega

theorem more_self (w : World) : w = more w #[] w.drawn := by cases w; simp [more]

theorem below_more {B : Nat} {a : World} (h : Below B a w) (hB : B ≤ w.heap.size) (os : Array Obj) (d : Nat) : Below B a (more w os d) :=
  h.trans ⟨rfl, rfl, rfl, by rw [size_more]; omega, fun k hk => heap_more k (by omega)⟩

theorem ret_int {k : IntKind} {a b : Int} (h : a = b) : Ending.returned (.int k a) = .returned (.int k b) := by rw [h]
theorem more_alloc (o : Obj) : (more w os d).alloc o = more w (os.push o) d := by simp [more, World.alloc]

/-- A world with blocks behind it, whatever they are. -/
def IsMore (w w' : World) : Prop := ∃ os d, w' = more w os d
theorem IsMore.refl (w : World) : IsMore w w := ⟨#[], w.drawn, more_self w⟩
theorem IsMore.alloc {w w' : World} (h : IsMore w w') (o : Obj) : IsMore w (w'.alloc o) := by
  obtain ⟨os, d, rfl⟩ := h; exact ⟨_, _, more_alloc o⟩
theorem IsMore.more {w w' : World} (h : IsMore w w') (os : Array Obj) (d : Nat) : IsMore w (more w' os d) := by
  obtain ⟨os', d', rfl⟩ := h; exact ⟨_, _, more_more os d⟩
theorem IsMore.drew {w w' : World} (h : IsMore w w') : IsMore w w'.drew := by
  obtain ⟨os, d, rfl⟩ := h; exact ⟨_, _, rfl⟩

/-- A region whose last operations are forced, in the world behind its draw by that name. -/
theorem still_tail {P : Program} {id : Nat} {Q : Exit → Act → World → Prop} {a : Act} {w : World} {l : List Oper} (n : Nat) (hm : P.follows .mixedOrders = true) (hB : Region.lexTailB .any l.toArray n = true)
    (h : wpStill P l.toArray w.drew (fun a' => wpList P l.toArray Q (l.drop n) a' w.drew) (l.take n) a) : (Code.region id l.toArray true).wp P Q a w :=
  wp_region_still_tail n hm hB h

/-- A number lies between two others, as a Bool under a name. -/
def inB (n lo hi : Int) : Bool := decide (lo ≤ n ∧ n ≤ hi)
theorem inB_iff {n lo hi : Int} : inB n lo hi = true ↔ lo ≤ n ∧ n ≤ hi := by simp [inB]

theorem within_any (n lo hi : Int) (w : World) :
    Calls Try.prog 16 #[.int .i64 n, .int .i64 lo, .int .i64 hi] w fun e w' => e = .returned (.bool (inB n lo hi)) ∧ w = w' := by
  by_cases h1 : lo ≤ n <;> by_cases h2 : n ≤ hi
  all_goals
    go_enter Try.func16, Try.ntmps16
    go_wp2
    go_ret
    simp [inB, *]

theorem l6In_any (n lo hi : Int) (w : World) :
    Calls Try.prog 19 #[.int .i64 n, .int .i64 lo, .int .i64 hi] w fun e w' => e = .returned (.bool (inB n lo hi)) ∧ w = w' := by
  by_cases h1 : lo ≤ n <;> by_cases h2 : n ≤ hi
  all_goals
    go_enter Try.func19, Try.ntmps19
    go_wp2
    go_ret
    simp [inB, *]

end Go.Proofs.Ytmoajpkgdimdaaa
