/- Sums of two squares are positive; the norm of an exact point: plain algebra. -/
import Derived.Test.YtklmlodapinflaaSurdE
import Derived.Test.YtklmlodapinflaaSign
namespace Go.Proofs.Ytklmlodapinflaa
open Go.RowKit

namespace Q2
def NN (a : Q2) : Prop := a = ⟨0, 0⟩ ∨ a.sg = 1
theorem add_zero (a : Q2) : add a ⟨0, 0⟩ = a := by apply ext' <;> simp [add]
theorem zero_add (a : Q2) : add ⟨0, 0⟩ a = a := by apply ext' <;> simp [add]
theorem pos_nn {a b : Q2} (ha : a.sg = 1) (hb : NN b) : (add a b).sg = 1 := by
  rcases hb with rfl | hb
  · rw [add_zero]; exact ha
  · exact sg_add ha hb
theorem nn_pos {a b : Q2} (ha : NN a) (hb : b.sg = 1) : (add a b).sg = 1 := by rw [add_comm]; exact pos_nn hb ha
theorem nn_nn {a b : Q2} (ha : NN a) (hb : NN b) : NN (add a b) := by
  rcases ha with rfl | ha
  · rw [zero_add]; exact hb
  · exact Or.inr (pos_nn ha hb)
theorem sg_smul {n : Int} (hn : 0 < n) (a : Q2) : (smul n a).sg = a.sg := by
  have e : smul n a = mul ⟨n, 0⟩ a := by apply ext' <;> simp [smul, mul]
  rw [e, sg_mul]
  have : (⟨n, 0⟩ : Q2).sg = 1 := by
    apply pos_mk; left; constructor
    · simp only [nm]; have := sq_pos (a := n) (by omega); omega
    · exact hn
  rw [this]; omega
theorem nn_sq' (a : Q2) : NN (mul a a) := Q4.nn1 a
theorem nn_smul {n : Int} (hn : 0 < n) {a : Q2} (ha : NN a) : NN (smul n a) := by
  rcases ha with rfl | ha
  · left; apply ext' <;> simp [smul]
  · right; rw [sg_smul hn]; exact ha
theorem sq_pos' {a : Q2} (h : a ≠ ⟨0, 0⟩) : (mul a a).sg = 1 := by
  rcases Q4.nn_sq a with h1 | h1
  · exact absurd h1 h
  · exact h1
end Q2
namespace Q4
open Q2
def add (a b : Q4) : Q4 := ⟨Q2.add a.p b.p, Q2.add a.q b.q⟩
theorem sos_nm (x y : Q4) : (add (mul x x) (mul y y)).nm =
    Q2.add (Q2.add (Q2.mul (Q2.add (Q2.mul x.p x.p) (neg (smul 3 (Q2.mul x.q x.q)))) (Q2.add (Q2.mul x.p x.p) (neg (smul 3 (Q2.mul x.q x.q))))) (Q2.mul (Q2.add (Q2.mul y.p y.p) (neg (smul 3 (Q2.mul y.q y.q)))) (Q2.add (Q2.mul y.p y.p) (neg (smul 3 (Q2.mul y.q y.q))))))
      (Q2.add (smul 2 (Q2.mul (Q2.add (Q2.mul x.p y.p) (neg (smul 3 (Q2.mul x.q y.q)))) (Q2.add (Q2.mul x.p y.p) (neg (smul 3 (Q2.mul x.q y.q)))))) (smul 6 (Q2.mul (Q2.add (Q2.mul x.q y.p) (neg (Q2.mul x.p y.q))) (Q2.add (Q2.mul x.q y.p) (neg (Q2.mul x.p y.q)))))) := by
  apply Q2.ext' <;> simp only [nm, mul, add, Q2.add, Q2.mul, Q2.neg, Q2.smul] <;> grind
theorem sub_zero {a b : Q2} (h : Q2.add a (neg b) = ⟨0, 0⟩) : a = b := by
  have hx : a.x + -b.x = 0 := congrArg Q2.x h
  have hy : a.y + -b.y = 0 := congrArg Q2.y h
  apply Q2.ext' <;> omega
/-- A sum of two squares is positive. -/
theorem sos_pos {x y : Q4} (h : ¬ (x = ⟨⟨0, 0⟩, ⟨0, 0⟩⟩ ∧ y = ⟨⟨0, 0⟩, ⟨0, 0⟩⟩)) : (add (mul x x) (mul y y)).sg = 1 := by
  have hn : (add (mul x x) (mul y y)).nm.sg = 1 := by
    rw [sos_nm]
    have n3 := nn_smul (n := 2) (by omega) (nn_sq' (Q2.add (Q2.mul x.p y.p) (neg (smul 3 (Q2.mul x.q y.q)))))
    have n4 := nn_smul (n := 6) (by omega) (nn_sq' (Q2.add (Q2.mul x.q y.p) (neg (Q2.mul x.p y.q))))
    refine pos_nn ?_ (nn_nn n3 n4)
    by_cases h1 : Q2.add (Q2.mul x.p x.p) (neg (smul 3 (Q2.mul x.q x.q))) = ⟨0, 0⟩
    · by_cases h2 : Q2.add (Q2.mul y.p y.p) (neg (smul 3 (Q2.mul y.q y.q))) = ⟨0, 0⟩
      · exfalso
        obtain ⟨e1, e2⟩ := no3q (sub_zero h1)
        obtain ⟨e3, e4⟩ := no3q (sub_zero h2)
        exact h ⟨ext' e1 e2, ext' e3 e4⟩
      · exact nn_pos (nn_sq' _) (sq_pos' h2)
    · exact pos_nn (sq_pos' h1) (nn_sq' _)
  rw [sg_P hn]
  show (Q2.add (Q2.add (Q2.mul x.p x.p) (smul 3 (Q2.mul x.q x.q))) (Q2.add (Q2.mul y.p y.p) (smul 3 (Q2.mul y.q y.q)))).sg = 1
  have m1 := nn_sq' x.p; have m2 := nn_smul (n := 3) (by omega) (nn_sq' x.q)
  have m3 := nn_sq' y.p; have m4 := nn_smul (n := 3) (by omega) (nn_sq' y.q)
  rcases nn_nn (nn_nn m1 m2) (nn_nn m3 m4) with h0 | h0
  · exfalso
    have hp : (add (mul x x) (mul y y)).p = ⟨0, 0⟩ := h0
    have e : (add (mul x x) (mul y y)).nm = Q2.add (Q2.mul ⟨0, 0⟩ ⟨0, 0⟩) (neg (smul 3 (Q2.mul (add (mul x x) (mul y y)).q (add (mul x x) (mul y y)).q))) := by
      unfold nm; rw [hp]
    have e2 : (add (mul x x) (mul y y)).nm = Q2.neg (smul 3 (Q2.mul (add (mul x x) (mul y y)).q (add (mul x x) (mul y y)).q)) := by
      rw [e]; apply Q2.ext' <;> simp only [Q2.add, Q2.mul, Q2.neg, Q2.smul] <;> omega
    rw [e2, sg_negate, sg_three, Q2.sg_mul] at hn
    rcases sg_cases (add (mul x x) (mul y y)).q with g | g | g <;> rw [g] at hn <;> omega
  · exact h0
end Q4

/-- A surd's top as a number of the ring. -/
def S4.q (s : S4) : Q4 := ⟨⟨s.a, s.b⟩, ⟨s.c, s.d⟩⟩
/-- The norm of a point. -/
def C8.nrm (x : C8) : S4 := (C8.mul x x.mir).re
set_option maxHeartbeats 4000000 in
theorem nrm_sq (x : C8) : Q4.add (Q4.mul x.re.q x.re.q) (Q4.mul x.im.q x.im.q) = ⟨Q2.smul 4 x.nrm.q.p, Q2.smul 4 x.nrm.q.q⟩ := by
  unfold C8.nrm
  rw [C8.mul_eq]
  apply Q4.ext' <;> apply Q2.ext' <;> simp only [Q4.add, Q4.mul, Q2.add, Q2.mul, Q2.smul, S4.q, C8.re, C8.im, C8.mir] <;> grind
theorem q4_smul (n : Int) (hn : 0 < n) (a : Q4) : Q4.sg ⟨Q2.smul n a.p, Q2.smul n a.q⟩ = a.sg := by
  have e : Q4.nm ⟨Q2.smul n a.p, Q2.smul n a.q⟩ = Q2.smul (n * n) a.nm := by
    apply Q2.ext' <;> simp only [Q4.nm, Q2.add, Q2.mul, Q2.neg, Q2.smul] <;> grind
  unfold Q4.sg
  rw [e, Q2.sg_smul (sq_pos (by omega)), Q2.sg_smul hn, Q2.sg_smul hn]
theorem zero_parts {x : C8} (h1 : x.re = S4.zero) (h2 : x.im = S4.zero) : x = C8.zero := by
  have a1 : 4 * x.c0 + 2 * x.c4 = 0 := congrArg S4.a h1
  have b1 : x.c1 + 2 * x.c3 - x.c5 + x.c7 = 0 := congrArg S4.b h1
  have c1 : 2 * x.c2 = 0 := congrArg S4.c h1
  have d1 : x.c1 + x.c5 - x.c7 = 0 := congrArg S4.d h1
  have a2 : 2 * x.c2 + 4 * x.c6 = 0 := congrArg S4.a h2
  have b2 : 0 - x.c1 + 2 * x.c3 + x.c5 + x.c7 = 0 := congrArg S4.b h2
  have c2 : 2 * x.c4 = 0 := congrArg S4.c h2
  have d2 : x.c1 + x.c5 + x.c7 = 0 := congrArg S4.d h2
  apply C8.ext' <;> simp only [C8.zero] <;> omega
theorem nrm_pos {x : C8} (h : x ≠ C8.zero) : x.nrm.q.sg = 1 := by
  rw [← q4_smul 4 (by omega), ← nrm_sq]
  refine Q4.sos_pos fun ⟨h1, h2⟩ => h (zero_parts ?_ ?_)
  · apply S4.ext'
    · exact congrArg (fun z => z.p.x) h1
    · exact congrArg (fun z => z.p.y) h1
    · exact congrArg (fun z => z.q.x) h1
    · exact congrArg (fun z => z.q.y) h1
  · apply S4.ext'
    · exact congrArg (fun z => z.p.x) h2
    · exact congrArg (fun z => z.p.y) h2
    · exact congrArg (fun z => z.q.x) h2
    · exact congrArg (fun z => z.q.y) h2
theorem nrm_zero : C8.zero.nrm = S4.zero := by
  unfold C8.nrm; rw [C8.mul_eq]; apply S4.ext' <;> simp [C8.re, C8.zero, C8.mir, S4.zero]
set_option maxHeartbeats 4000000 in
theorem nrm_turn5 (x : C8) : (x.turn 5).nrm = x.nrm := by
  unfold C8.nrm
  rw [C8.mul_eq, C8.mul_eq]
  apply S4.ext' <;> simp only [C8.re, C8.turn, C8.stp, C8.mir] <;> grind
theorem nrm_mir (x : C8) : x.mir.nrm = x.nrm := by
  unfold C8.nrm; rw [C8.mir_mir, C8.mul_comm]
end Go.Proofs.Ytklmlodapinflaa
