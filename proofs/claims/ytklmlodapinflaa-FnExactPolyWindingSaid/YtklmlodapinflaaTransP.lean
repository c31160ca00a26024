/- Sums of points: plain algebra; transforms lead back, shifts turn, products of transforms. -/
import Derived.Test.YtklmlodapinflaaCircA
namespace Go.Proofs.Ytklmlodapinflaa
open Go.RowKit

theorem C8.add_comm (a b : C8) : C8.add a b = C8.add b a := by apply C8.ext' <;> simp only [C8.add] <;> omega
theorem C8.add_assoc (a b c : C8) : C8.add (C8.add a b) c = C8.add a (C8.add b c) := by apply C8.ext' <;> simp only [C8.add] <;> omega
theorem C8.add_zero (a : C8) : C8.add a C8.zero = a := by apply C8.ext' <;> simp [C8.add, C8.zero]
theorem C8.zero_add (a : C8) : C8.add C8.zero a = a := by apply C8.ext' <;> simp [C8.add, C8.zero]
theorem C8.add4 (a b c d : C8) : C8.add (C8.add a b) (C8.add c d) = C8.add (C8.add a c) (C8.add b d) := by apply C8.ext' <;> simp only [C8.add] <;> omega
theorem C8.stp_add (a b : C8) : (C8.add a b).stp = C8.add a.stp b.stp := by apply C8.ext' <;> simp only [C8.add, C8.stp] <;> omega
theorem C8.turn_plus (a b : C8) : ∀ n, (C8.add a b).turn n = C8.add (a.turn n) (b.turn n)
  | 0 => rfl
  | n + 1 => by show ((C8.add a b).turn n).stp = _; rw [C8.turn_plus a b n, C8.stp_add]; rfl
theorem C8.zero_turn : ∀ n, C8.zero.turn n = C8.zero
  | 0 => rfl
  | n + 1 => by show (C8.zero.turn n).stp = _; rw [C8.zero_turn n]; rfl
theorem C8.mul_zero (a : C8) : C8.mul a C8.zero = C8.zero := by rw [C8.mul_eq]; apply C8.ext' <;> simp [C8.zero]
/-- A multiple of a point. -/
def C8.scl (n : Int) (a : C8) : C8 := ⟨n * a.c0, n * a.c1, n * a.c2, n * a.c3, n * a.c4, n * a.c5, n * a.c6, n * a.c7⟩
theorem C8.mul_whole (n : Int) (a : C8) : C8.mul a ⟨n, 0, 0, 0, 0, 0, 0, 0⟩ = C8.scl n a := by rw [C8.mul_eq]; apply C8.ext' <;> simp [C8.scl, Int.mul_comm]

theorem sumP_congr {f g : Nat → C8} : ∀ {n : Nat}, (∀ k, k < n → f k = g k) → sumP f n = sumP g n
  | 0, _ => rfl
  | n + 1, h => by show C8.add (sumP f n) (f n) = C8.add (sumP g n) (g n); rw [sumP_congr (n := n) (fun k hk => h k (by omega)), h n (by omega)]
theorem sumP_add (f g : Nat → C8) : ∀ n, sumP (fun k => C8.add (f k) (g k)) n = C8.add (sumP f n) (sumP g n)
  | 0 => by show C8.zero = C8.add C8.zero C8.zero; rw [C8.add_zero]
  | n + 1 => by show C8.add (sumP (fun k => C8.add (f k) (g k)) n) (C8.add (f n) (g n)) = C8.add (C8.add (sumP f n) (f n)) (C8.add (sumP g n) (g n)); rw [sumP_add f g n, C8.add4]
theorem sumP_zero : ∀ n, sumP (fun _ => C8.zero) n = C8.zero
  | 0 => rfl
  | n + 1 => by show C8.add (sumP (fun _ => C8.zero) n) C8.zero = _; rw [sumP_zero n, C8.add_zero]
theorem sumP_swap (F : Nat → Nat → C8) (m : Nat) : ∀ n, sumP (fun j => sumP (fun k => F j k) n) m = sumP (fun k => sumP (fun j => F j k) m) n
  | 0 => sumP_zero m
  | n + 1 => by
    show sumP (fun j => C8.add (sumP (fun k => F j k) n) (F j n)) m = C8.add (sumP (fun k => sumP (fun j => F j k) m) n) (sumP (fun j => F j n) m)
    rw [sumP_add, sumP_swap F m n]
theorem sumP_turn (f : Nat → C8) (t : Nat) : ∀ n, (sumP f n).turn t = sumP (fun k => (f k).turn t) n
  | 0 => C8.zero_turn t
  | n + 1 => by show (C8.add (sumP f n) (f n)).turn t = C8.add (sumP (fun k => (f k).turn t) n) ((f n).turn t); rw [C8.turn_plus, sumP_turn f t n]
theorem sumP_mul (a : C8) (f : Nat → C8) : ∀ n, C8.mul a (sumP f n) = sumP (fun k => C8.mul a (f k)) n
  | 0 => C8.mul_zero a
  | n + 1 => by show C8.mul a (C8.add (sumP f n) (f n)) = C8.add (sumP (fun k => C8.mul a (f k)) n) (C8.mul a (f n)); rw [C8.mul_add, sumP_mul a f n]
theorem sumP_mul' (a : C8) (f : Nat → C8) (n : Nat) : C8.mul (sumP f n) a = sumP (fun k => C8.mul (f k) a) n := by
  rw [C8.mul_comm, sumP_mul]; exact sumP_congr fun k _ => C8.mul_comm _ _
theorem sumP_one (f : Nat → C8) (m : Nat) : ∀ n, m < n → (∀ k, k < n → k ≠ m → f k = C8.zero) → sumP f n = f m
  | 0, h, _ => by omega
  | n + 1, h, hz => by
    show C8.add (sumP f n) (f n) = f m
    by_cases e : m = n
    · subst e
      rw [sumP_congr (g := fun _ => C8.zero) (fun k hk => hz k (by omega) (by omega)), sumP_zero, C8.zero_add]
    · rw [sumP_one f m n (by omega) (fun k hk hne => hz k (by omega) hne), hz n (by omega) (fun h => e h.symm), C8.add_zero]
theorem sumP_first (f : Nat → C8) : ∀ n, sumP f (n + 1) = C8.add (f 0) (sumP (fun k => f (k + 1)) n)
  | 0 => by show C8.add C8.zero (f 0) = C8.add (f 0) C8.zero; rw [C8.zero_add, C8.add_zero]
  | n + 1 => by
    show C8.add (sumP f (n + 1)) (f (n + 1)) = C8.add (f 0) (C8.add (sumP (fun k => f (k + 1)) n) (f (n + 1)))
    rw [sumP_first f n, C8.add_assoc]
theorem sumP_rot1 (f : Nat → C8) (n : Nat) : sumP (fun k => f ((k + 1) % n)) n = sumP f n := by
  cases n with
  | zero => rfl
  | succ n =>
    rw [sumP_first f n]
    show C8.add (sumP (fun k => f ((k + 1) % (n + 1))) n) (f ((n + 1) % (n + 1))) = _
    rw [Nat.mod_self, sumP_congr (g := fun k => f (k + 1)) (fun k hk => by rw [Nat.mod_eq_of_lt (by omega)]), C8.add_comm]
theorem sumP_rot (f : Nat → C8) (n : Nat) : ∀ m, sumP (fun k => f ((k + m) % n)) n = sumP f n
  | 0 => sumP_congr fun k hk => by rw [Nat.add_zero, Nat.mod_eq_of_lt hk]
  | m + 1 => by
    rw [← sumP_rot f n m, ← sumP_rot1 (fun k => f ((k + m) % n)) n]
    refine sumP_congr fun k hk => ?_
    show f _ = f _
    rw [Nat.mod_add_mod, show k + 1 + m = k + (m + 1) by omega]
theorem sumP_rev (f : Nat → C8) : ∀ n, sumP (fun k => f (n - 1 - k)) n = sumP f n
  | 0 => rfl
  | n + 1 => by
    rw [sumP_first]
    show C8.add (f (n + 1 - 1 - 0)) _ = C8.add (sumP f n) (f n)
    rw [show n + 1 - 1 - 0 = n by omega, C8.add_comm, ← sumP_rev f n]
    congr 1
    exact sumP_congr fun k hk => by rw [show n + 1 - 1 - (k + 1) = n - 1 - k by omega]
/-- The index k - i, below 0 from the end on. -/
theorem sumP_refl (f : Nat → C8) (n k : Nat) : sumP (fun i => f (rcI n k i)) n = sumP f n := by
  rw [← sumP_rot f n (k + 1), ← sumP_rev (fun i => f ((i + (k + 1)) % n)) n]
  refine sumP_congr fun i hi => ?_
  show f _ = f _
  unfold rcI
  rw [show n - 1 - i + (k + 1) = k + n - i by omega]

/-- Whole turns of a point add up to nothing. -/
def orthB : Bool := [1, 2, 3, 4, 6, 8, 12, 24].all fun n => (List.range n).all fun d => eqC (sumP (fun j => C8.rt ((24 / n * j * d) % 24)) n) (if d = 0 then ⟨n, 0, 0, 0, 0, 0, 0, 0⟩ else C8.zero)
theorem orthB_true : orthB = true := by decide +kernel
theorem div24 {n : Nat} (h1 : 1 ≤ n) (h2 : n ≤ 24) (h : 24 % n = 0) : n ∈ [1, 2, 3, 4, 6, 8, 12, 24] := by
  have : n = 1 ∨ n = 2 ∨ n = 3 ∨ n = 4 ∨ n = 5 ∨ n = 6 ∨ n = 7 ∨ n = 8 ∨ n = 9 ∨ n = 10 ∨ n = 11 ∨ n = 12 ∨ n = 13 ∨ n = 14 ∨ n = 15 ∨ n = 16 ∨ n = 17 ∨ n = 18 ∨ n = 19 ∨ n = 20 ∨ n = 21 ∨ n = 22 ∨ n = 23 ∨ n = 24 := by omega
  rcases this with rfl | rfl | rfl | rfl | rfl | rfl | rfl | rfl | rfl | rfl | rfl | rfl | rfl | rfl | rfl | rfl | rfl | rfl | rfl | rfl | rfl | rfl | rfl | rfl <;> first | (exfalso; omega) | simp
theorem orth (x : C8) {n d : Nat} (h1 : 1 ≤ n) (h2 : n ≤ 24) (h : 24 % n = 0) (hd : d < n) : sumP (fun j => x.turn ((24 / n * j * d) % 24)) n = if d = 0 then C8.scl n x else C8.zero := by
  have key := List.all_eq_true.1 orthB_true n (div24 h1 h2 h)
  have key2 := eqC_iff.1 (List.all_eq_true.1 key d (List.mem_range.2 hd))
  rw [sumP_congr (g := fun j => C8.mul x (C8.rt ((24 / n * j * d) % 24))) (fun j _ => (C8.mul_rt x _).symm), ← sumP_mul, key2]
  split
  · rw [C8.mul_whole]
  · rw [C8.mul_zero]

theorem trI_val (dir : Int) (n j k : Nat) : ∃ z : Int, (trI dir n j k : Int) = dir * j * k * (24 / n : Nat) + 24 * z :=
  ⟨-((dir * j * k * (24 / n : Nat)) / 24), by unfold trI; omega⟩
theorem rcI_eq {n m k : Nat} (hm : m < n) (hk : k < n) : rcI n m k = if k ≤ m then m - k else m + n - k := by
  unfold rcI
  split
  · rw [show m + n - k = (m - k) + n by omega, Nat.add_mod_right, Nat.mod_eq_of_lt (by omega)]
  · rw [Nat.mod_eq_of_lt (by omega)]
theorem rcI_zero {n m k : Nat} (hm : m < n) (hk : k < n) : rcI n m k = 0 ↔ k = m := by
  rw [rcI_eq hm hk]; split <;> omega
theorem rcI_val {n m k : Nat} (hm : m < n) (hk : k < n) : ∃ c : Int, (rcI n m k : Int) = (m : Int) - k + n * c := by
  rw [rcI_eq hm hk]; split
  · exact ⟨0, by omega⟩
  · exact ⟨1, by omega⟩
theorem div_mul24 {n : Nat} (h : 24 % n = 0) : (n : Int) * ((24 / n : Nat) : Int) = 24 := by
  have : n * (24 / n) = 24 := Nat.mul_div_cancel' (Nat.dvd_of_mod_eq_zero h)
  exact_mod_cast this
theorem trI_back {n j k m : Nat} (h : 24 % n = 0) (hm : m < n) (hk : k < n) : (trI (-1) n j k + trI 1 n m j) % 24 = (24 / n * j * rcI n m k) % 24 := by
  obtain ⟨z1, h1⟩ := trI_val (-1) n j k
  obtain ⟨z2, h2⟩ := trI_val 1 n m j
  obtain ⟨c, h3⟩ := rcI_val hm hk
  have hq := div_mul24 h
  have e : ((trI (-1) n j k + trI 1 n m j : Nat) : Int) = ((24 / n * j * rcI n m k : Nat) : Int) + 24 * (z1 + z2 - j * c) := by
    push_cast at *
    rw [h1, h2, h3]
    generalize ((24 / n : Nat) : Int) = q at *
    grind
  omega
theorem trI_forth {n j k m : Nat} (h : 24 % n = 0) (hm : m < n) (hk : k < n) : (trI 1 n j k + trI (-1) n m j) % 24 = (24 / n * j * rcI n k m) % 24 := by
  obtain ⟨z1, h1⟩ := trI_val 1 n j k
  obtain ⟨z2, h2⟩ := trI_val (-1) n m j
  obtain ⟨c, h3⟩ := rcI_val hk hm
  have hq := div_mul24 h
  have e : ((trI 1 n j k + trI (-1) n m j : Nat) : Int) = ((24 / n * j * rcI n k m : Nat) : Int) + 24 * (z1 + z2 - j * c) := by
    push_cast at *
    rw [h1, h2, h3]
    generalize ((24 / n : Nat) : Int) = q at *
    grind
  omega
/-- A transform, and back. -/
theorem trF_back {xs zs : List C8} (hl : zs.length = xs.length) (h1 : 1 ≤ xs.length) (h2 : xs.length ≤ 24) (h : 24 % xs.length = 0)
    (hz : ∀ j, j < xs.length → zs.getD j C8.zero = sumP (trF (-1) xs j) xs.length) (m : Nat) (hm : m < xs.length) : sumP (trF 1 zs m) zs.length = C8.scl xs.length (xs.getD m C8.zero) := by
  rw [hl, sumP_congr (g := fun j => sumP (fun k => (xs.getD k C8.zero).turn ((24 / xs.length * j * rcI xs.length m k) % 24)) xs.length) (fun j hj => by
    show (zs.getD j C8.zero).turn (trI 1 zs.length m j) = _
    rw [hz j hj, sumP_turn, hl]
    refine sumP_congr fun k hk => ?_
    show ((xs.getD k C8.zero).turn (trI (-1) xs.length j k)).turn (trI 1 xs.length m j) = _
    rw [C8.turn_add, ← C8.turn_mod, trI_back h hm hk, C8.turn_mod])]
  rw [sumP_swap, sumP_one _ m xs.length hm (fun k hk hne => by
    show sumP (fun j => (xs.getD k C8.zero).turn ((24 / xs.length * j * rcI xs.length m k) % 24)) xs.length = C8.zero
    rw [orth _ h1 h2 h (rcI_lt hm), if_neg (fun e => hne ((rcI_zero hm hk).1 e))])]
  show sumP (fun j => (xs.getD m C8.zero).turn ((24 / xs.length * j * rcI xs.length m m) % 24)) xs.length = _
  rw [orth _ h1 h2 h (rcI_lt hm), if_pos ((rcI_zero hm hm).2 rfl)]
theorem trF_forth {xs zs : List C8} (hl : zs.length = xs.length) (h1 : 1 ≤ xs.length) (h2 : xs.length ≤ 24) (h : 24 % xs.length = 0)
    (hz : ∀ j, j < xs.length → zs.getD j C8.zero = sumP (trF 1 xs j) xs.length) (m : Nat) (hm : m < xs.length) : sumP (trF (-1) zs m) zs.length = C8.scl xs.length (xs.getD m C8.zero) := by
  rw [hl, sumP_congr (g := fun j => sumP (fun k => (xs.getD k C8.zero).turn ((24 / xs.length * j * rcI xs.length k m) % 24)) xs.length) (fun j hj => by
    show (zs.getD j C8.zero).turn (trI (-1) zs.length m j) = _
    rw [hz j hj, sumP_turn, hl]
    refine sumP_congr fun k hk => ?_
    show ((xs.getD k C8.zero).turn (trI 1 xs.length j k)).turn (trI (-1) xs.length m j) = _
    rw [C8.turn_add, ← C8.turn_mod, trI_forth h hm hk, C8.turn_mod])]
  rw [sumP_swap, sumP_one _ m xs.length hm (fun k hk hne => by
    show sumP (fun j => (xs.getD k C8.zero).turn ((24 / xs.length * j * rcI xs.length k m) % 24)) xs.length = C8.zero
    rw [orth _ h1 h2 h (rcI_lt hk), if_neg (fun e => hne ((rcI_zero hk hm).1 e).symm)])]
  show sumP (fun j => (xs.getD m C8.zero).turn ((24 / xs.length * j * rcI xs.length m m) % 24)) xs.length = _
  rw [orth _ h1 h2 h (rcI_lt hm), if_pos ((rcI_zero hm hm).2 rfl)]
/-- Shifted rows: by how much a transform's points are turned. -/
theorem trI_shift {n j k m : Nat} (h : 24 % n = 0) : ∀ t : Nat, t = j * m % n * (24 / n) → trI (-1) n j k % 24 = (trI (-1) n j ((k + m) % n) + t) % 24 := by
  intro t ht
  obtain ⟨z1, h1⟩ := trI_val (-1) n j k
  obtain ⟨z2, h2⟩ := trI_val (-1) n j ((k + m) % n)
  have hq := div_mul24 h
  have h3 : (((k + m) % n : Nat) : Int) = (k : Int) + m - n * ((k + m) / n : Nat) := by
    have e : (n : Int) * ((k + m) / n : Nat) + ((k + m) % n : Nat) = ((k + m : Nat) : Int) := by rw [← Int.natCast_mul, ← Int.natCast_add, Nat.div_add_mod]
    rw [Int.natCast_add] at e; omega
  have h4 : ((j * m % n : Nat) : Int) = (j : Int) * m - n * ((j * m) / n : Nat) := by
    have e : (n : Int) * ((j * m) / n : Nat) + ((j * m) % n : Nat) = ((j * m : Nat) : Int) := by rw [← Int.natCast_mul, ← Int.natCast_add, Nat.div_add_mod]
    rw [Int.natCast_mul j m] at e; omega
  generalize hg1 : (((k + m) / n : Nat) : Int) = g1 at *
  generalize hg2 : (((j * m) / n : Nat) : Int) = g2 at *
  generalize hg3 : ((24 / n : Nat) : Int) = q at *
  have ht2 : (t : Int) = ((j * m % n : Nat) : Int) * q := by rw [ht, Int.natCast_mul, hg3]
  rw [h4] at ht2
  rw [h3] at h2
  have e : ((trI (-1) n j ((k + m) % n) + t : Nat) : Int) = (trI (-1) n j k : Int) + 24 * (z2 - z1 + j * g1 - g2) := by
    rw [Int.natCast_add, h1, h2, ht2]
    grind
  omega
end Go.Proofs.Ytklmlodapinflaa
