/- Transforms keep squares. -/
import Derived.Test.YtelgbmebjickeaaRowC
import Derived.Test.YtelgbmebjickeaaRowLawT
import Derived.Test.YtelgbmebjickeaaScaled
import Derived.Test.YtelgbmebjickeaaSurdEq
namespace Go.Proofs.Ytelgbmebjickeaa
open Go.RowKit

theorem C8.mir_add (a b : C8) : (C8.add a b).mir = C8.add a.mir b.mir := by apply C8.ext' <;> simp only [C8.add, C8.mir] <;> omega
theorem C8.mir_zero : C8.zero.mir = C8.zero := by apply C8.ext' <;> simp [C8.zero, C8.mir]
theorem sumP_mir (f : Nat → C8) : ∀ n, (sumP f n).mir = sumP (fun k => (f k).mir) n
  | 0 => C8.mir_zero
  | n + 1 => by show (C8.add (sumP f n) (f n)).mir = C8.add (sumP (fun k => (f k).mir) n) (f n).mir; rw [C8.mir_add, sumP_mir f n]
theorem C8.mir_stp (a : C8) : a.stp.mir.stp = a.mir := by apply C8.ext' <;> simp only [C8.stp, C8.mir] <;> omega
theorem C8.stp_turn (a : C8) : ∀ n, (a.stp).turn n = (a.turn n).stp
  | 0 => rfl
  | n + 1 => by show ((a.stp).turn n).stp = _; rw [C8.stp_turn a n]; rfl
theorem C8.mir_turn (a : C8) : ∀ t, ((a.turn t).mir).turn t = a.mir
  | 0 => rfl
  | t + 1 => by
    show (((a.turn t).stp.mir).turn t).stp = a.mir
    rw [← C8.stp_turn, C8.mir_stp, C8.mir_turn a t]
theorem C8.mir_turn' (a : C8) {s t : Nat} (h : (s + t) % 24 = 0) : (a.turn s).mir = a.mir.turn t := by
  rw [← C8.mir_turn a s, C8.turn_add, ← C8.turn_mod _ (s + t), h]; rfl
theorem C8.re_add (a b : C8) : (C8.add a b).re = S4.add a.re b.re := by apply S4.ext' <;> simp only [C8.add, C8.re, S4.add] <;> omega
theorem C8.re_zero : C8.zero.re = S4.zero := by apply S4.ext' <;> simp [C8.zero, C8.re, S4.zero]
theorem C8.re_scl (n : Int) (a : C8) : (C8.scl n a).re = S4.scl n a.re := by apply S4.ext' <;> simp only [C8.scl, C8.re, S4.scl] <;> grind
theorem C8.scl_add (n : Int) (a b : C8) : C8.scl n (C8.add a b) = C8.add (C8.scl n a) (C8.scl n b) := by apply C8.ext' <;> simp only [C8.scl, C8.add] <;> grind
theorem C8.scl_zero (n : Int) : C8.scl n C8.zero = C8.zero := by apply C8.ext' <;> simp [C8.scl, C8.zero]
theorem sumP_scl (n : Int) (f : Nat → C8) : ∀ m, C8.scl n (sumP f m) = sumP (fun k => C8.scl n (f k)) m
  | 0 => C8.scl_zero n
  | m + 1 => by show C8.scl n (C8.add (sumP f m) (f m)) = C8.add (sumP (fun k => C8.scl n (f k)) m) (C8.scl n (f m)); rw [C8.scl_add, sumP_scl n f m]
/-- The squares of a row. -/
def sqF (xs : List C8) (k : Nat) : C8 := C8.mul (xs.getD k C8.zero) (xs.getD k C8.zero).mir
theorem sqS_eq (xs : List C8) : ∀ n, sqS xs n = (sumP (sqF xs) n).re
  | 0 => C8.re_zero.symm
  | n + 1 => by show S4.add (sqS xs n) (sqF xs n).re = (C8.add (sumP (sqF xs) n) (sqF xs n)).re; rw [sqS_eq xs n, C8.re_add]
theorem trI_opp (n j l : Nat) : (trI (-1) n j l + trI 1 n l j) % 24 = 0 := by
  obtain ⟨z1, h1⟩ := trI_val (-1) n j l
  obtain ⟨z2, h2⟩ := trI_val 1 n l j
  have e : ((trI (-1) n j l + trI 1 n l j : Nat) : Int) = 24 * (z1 + z2) := by
    rw [Int.natCast_add, h1, h2]
    generalize ((24 / n : Nat) : Int) = q at *
    grind
  omega
theorem C8.turn_mul2 (a b : C8) (s t : Nat) : C8.mul (a.turn s) (b.turn t) = (C8.mul a b).turn (s + t) := by
  rw [C8.mul_turn, C8.mul_comm, C8.mul_turn, C8.turn_add, C8.mul_comm]
theorem parseval {xs : List C8} (h : trOk (-1) xs = true) : sumP (sqF (trR (-1) xs)) (trR (-1) xs).length = C8.scl xs.length (sumP (sqF xs) xs.length) := by
  obtain ⟨⟨h1, h2, h3⟩, -⟩ := rvOk_get (trOk_row h)
  obtain ⟨l, g⟩ := trR_yes h
  rw [l, sumP_congr (g := fun j => sumP (fun k => sumP (fun i => (C8.mul (xs.getD k C8.zero) (xs.getD i C8.zero).mir).turn ((24 / xs.length * j * rcI xs.length i k) % 24)) xs.length) xs.length) (fun j hj => by
    show C8.mul ((trR (-1) xs).getD j C8.zero) ((trR (-1) xs).getD j C8.zero).mir = _
    rw [g j hj, sumP_mir, sumP_mul']
    refine sumP_congr fun k hk => ?_
    rw [sumP_mul]
    refine sumP_congr fun i hi => ?_
    show C8.mul ((xs.getD k C8.zero).turn (trI (-1) xs.length j k)) ((xs.getD i C8.zero).turn (trI (-1) xs.length j i)).mir = _
    rw [C8.mir_turn' _ (trI_opp xs.length j i), C8.turn_mul2, ← C8.turn_mod, trI_back h3 hi hk])]
  rw [sumP_swap, sumP_scl]
  refine sumP_congr fun k hk => ?_
  rw [sumP_swap, sumP_one _ k xs.length hk (fun i hi hne => by
    show sumP (fun j => (C8.mul (xs.getD k C8.zero) (xs.getD i C8.zero).mir).turn ((24 / xs.length * j * rcI xs.length i k) % 24)) xs.length = C8.zero
    rw [orth _ h1 h2 h3 (rcI_lt hi), if_neg (fun e => hne ((rcI_zero hi hk).1 e).symm)])]
  show sumP (fun j => (C8.mul (xs.getD k C8.zero) (xs.getD k C8.zero).mir).turn ((24 / xs.length * j * rcI xs.length k k) % 24)) xs.length = _
  rw [orth _ h1 h2 h3 (rcI_lt hk), if_pos ((rcI_zero hk hk).2 rfl)]
  rfl
theorem sqG_lim {xs : List C8} : ∀ {n : Nat}, 1 ≤ n → sqG xs n = true → S4.lim 10000000 (sqS xs n)
  | n + 1, _, h => by
    have h' : (sqG xs n = true ∧ nmOk (xs.getD n C8.zero) = true) ∧ saOk (sqS xs n) (xs.getD n C8.zero).nrm = true := by
      have : (sqG xs n && nmOk (xs.getD n C8.zero) && saOk (sqS xs n) (xs.getD n C8.zero).nrm) = true := h
      simpa only [Bool.and_eq_true] using this
    have h2 := h'.2
    simp only [saOk, Bool.and_eq_true] at h2
    exact okT_lim.1 h2.2
theorem rsR_yes {xs : List C8} (h : rsOk xs = true) : 1 ≤ xs.length ∧ rsR xs = (sumP (sqF xs) xs.length).re ∧ S4.lim 10000000 (rsR xs) := by
  have h' := h
  simp only [rsOk, Bool.and_eq_true] at h'
  have h1 := (rvOk_get h'.1).1.1
  rw [rsR, if_pos h]
  exact ⟨h1, sqS_eq _ _, sqG_lim h1 h'.2⟩
theorem pars_facts {xs : List C8} (h : trOk (-1) xs = true) (h1 : rsOk (trR (-1) xs) = true) (h2 : rsOk xs = true) :
    IntKind.i64.wrap ((xs.length : Int) * (rsR xs).a) = (rsR (trR (-1) xs)).a ∧ IntKind.i64.wrap ((xs.length : Int) * (rsR xs).b) = (rsR (trR (-1) xs)).b ∧ IntKind.i64.wrap ((xs.length : Int) * (rsR xs).c) = (rsR (trR (-1) xs)).c ∧ IntKind.i64.wrap ((xs.length : Int) * (rsR xs).d) = (rsR (trR (-1) xs)).d := by
  obtain ⟨-, e1, b1, b2, b3, b4⟩ := rsR_yes h1
  obtain ⟨-, e2, -⟩ := rsR_yes h2
  have e : rsR (trR (-1) xs) = S4.scl xs.length (rsR xs) := by rw [e1, e2, parseval h, C8.re_scl]
  rw [e] at b1 b2 b3 b4 ⊢
  simp only [S4.scl] at b1 b2 b3 b4 ⊢
  exact ⟨IntWalk.i64_in _ (by omega), IntWalk.i64_in _ (by omega), IntWalk.i64_in _ (by omega), IntWalk.i64_in _ (by omega)⟩
theorem rowSquares_own {B : Nat} {v : Value} {xs : List C8} {w : World} (h : OwnsP w B v xs) (hn : xs.length ≤ 1048576) :
    Calls Try.prog 38 #[v] w fun e w' => e = .returned (.tuple #[sS (rsR xs), .bool (rsOk xs)]) ∧ Below w.heap.size w w' := by
  obtain ⟨a, cap, rfl, hp⟩ := h.hasP
  exact rowSquares_any a cap xs w hp hn
end Go.Proofs.Ytelgbmebjickeaa
