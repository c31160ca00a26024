/- The reader of a code: its block, and what a pick does to it. A reader is opened. -/
import Derived.Test.YtmoajpkgdimdaaaFloat
import Derived.Deep.QuietTactic
import Derived.BigQuiet
import Derived.Laws.Rows
section -- a part
namespace Go.Proofs.Ytmoajpkgdimdaaa
open Go.RowKit

/-- The reader's block holds the slice v and the place p. -/
def rdObj (v : Value) (p : Int) : Obj := .cells #[v, .int .i64 p] 88
/-- A world in which the reader's block g holds v and p. -/
def rd (w : World) (g : Nat) (v : Value) (p : Int) : World := { w with heap := w.heap.setIfInBounds g (rdObj v p) }

section
variable {w : World} {g : Nat} {v : Value} {p : Int}
@[simp, go_sem] theorem size_rd : (rd w g v p).heap.size = w.heap.size := by simp [rd]
theorem heap_rd_same (hg : g < w.heap.size) : (rd w g v p).heap[g]? = some (rdObj v p) := by
  show (w.heap.setIfInBounds g _)[g]? = _
  rw [Array.getElem?_setIfInBounds]; simp [hg]
theorem heap_rd_other (n : Nat) (hn : n ≠ g) : (rd w g v p).heap[n]? = w.heap[n]? := by
  show (w.heap.setIfInBounds g _)[n]? = _
  rw [Array.getElem?_setIfInBounds, if_neg (fun h => hn h.symm)]
@[go_sem] theorem cell_rd0 (hg : g < w.heap.size) : (rd w g v p).cell? ⟨g, 0, none⟩ = some v := by
  have := heap_rd_same (v := v) (p := p) hg; simp [World.cell?, this, rdObj]
@[go_sem] theorem cell_rd1 (hg : g < w.heap.size) : (rd w g v p).cell? ⟨g, 1, none⟩ = some (.int .i64 p) := by
  have := heap_rd_same (v := v) (p := p) hg; simp [World.cell?, this, rdObj]
@[go_sem] theorem frozen_rd (hg : g < w.heap.size) (i : Nat) : (rd w g v p).frozen? ⟨g, i, none⟩ = false := by
  have := heap_rd_same (v := v) (p := p) hg; simp [World.frozen?, this, rdObj]
@[go_sem] theorem cell_rd_other (n i : Nat) (hn : n ≠ g) : (rd w g v p).cell? ⟨n, i, none⟩ = w.cell? ⟨n, i, none⟩ :=
  World.cell?_of_block (w := w) (heap_rd_other n hn)
@[go_sem] theorem frozen_rd_other (n i : Nat) (hn : n ≠ g) : (rd w g v p).frozen? ⟨n, i, none⟩ = w.frozen? ⟨n, i, none⟩ :=
  World.frozen?_of_block (w := w) (heap_rd_other n hn)
@[go_sem] theorem rd_rd (v' : Value) (p' : Int) : rd (rd w g v p) g v' p' = rd w g v' p' := by
  unfold rd; congr 1; apply Array.ext_getElem?; intro k; simp only [Array.getElem?_setIfInBounds, Array.size_setIfInBounds]
  by_cases h : g = k <;> simp [h]
@[go_sem] theorem rd_set (q : Int) (hg : g < w.heap.size) : (rd w g v p).setCell ⟨g, 1, none⟩ (.int .i64 q) = rd w g v q := by
  unfold rd World.setCell
  congr 1
  apply Array.ext_getElem?
  intro k
  simp only [Array.getElem?_modify, Array.getElem?_setIfInBounds]
  by_cases h : g = k
  · subst h; simp [hg, rdObj]
  · simp [h]
@[go_sem] theorem rd_alloc (o : Obj) (hg : g < w.heap.size) : rd (w.alloc o) g v p = (rd w g v p).alloc o := by
  unfold rd World.alloc; congr 1; apply Array.ext_getElem?; intro k
  simp only [Array.getElem?_setIfInBounds, Array.getElem?_push, Array.size_push, Array.size_setIfInBounds]
  by_cases h : k = w.heap.size
  · subst h; rw [if_neg (by omega)]; simp
  · by_cases h2 : g = k <;> simp [h, h2]
    subst h2; simp [hg]; omega
@[go_sem] theorem rd_alloc_at (c : Array Value) (hn : g = w.heap.size) : rd (w.alloc (.cells c 88)) g v p = w.alloc (.cells #[v, .int .i64 p] 88) := by
  subst hn
  unfold rd World.alloc; congr 1; apply Array.ext_getElem?; intro k
  simp only [Array.getElem?_setIfInBounds, Array.getElem?_push, Array.size_push]
  by_cases h : w.heap.size = k
  · subst h; simp [rdObj]
  · rw [if_neg h, if_neg (fun e => h e.symm), if_neg (fun e => h e.symm)]
@[go_sem] theorem rd_more (os : Array Obj) (d : Nat) (hg : g < w.heap.size) : rd (more w os d) g v p = more (rd w g v p) os d := by
  unfold rd more; congr 1; apply Array.ext_getElem?; intro k
  simp only [Array.getElem?_setIfInBounds, Array.getElem?_append, Array.size_append, Array.size_setIfInBounds]
  by_cases h : g = k
  · subst h; simp [hg]; omega
  · simp [h]
@[go_sem] theorem rd_drew : rd w.drew g v p = (rd w g v p).drew := rfl

/-- Where the block holds v and p already the world is that. -/
theorem rd_self (h : w.heap[g]? = some (rdObj v p)) : w = rd w g v p := by
  cases w with
  | mk heap tape drawn os output =>
    simp only [rd, World.mk.injEq, and_true]
    apply Array.ext_getElem?
    intro k
    rw [Array.getElem?_setIfInBounds]
    by_cases hk : g = k
    · subst hk; simp only at h
      have hlt : g < heap.size := by
        by_cases hl : g < heap.size
        · exact hl
        · rw [Array.getElem?_eq_none (by omega)] at h; cases h
      rw [if_pos rfl, if_pos hlt]; exact h
    · simp [hk]
end

/-! The block of the reader, found through what lies above it. -/
section
variable {w : World}
@[go_sem] theorem heap_alloc_past (o : Obj) (n : Nat) (hn : n < w.heap.size) : (w.alloc o).heap[n]? = w.heap[n]? := Below.heap_alloc w o n hn
@[go_sem] theorem heap_alloc_at (o : Obj) (n : Nat) (hn : n = w.heap.size) : (w.alloc o).heap[n]? = some o := by subst hn; exact heap_alloc_new w o
@[go_sem] theorem heap_more_past (os : Array Obj) (d n : Nat) (hn : n < w.heap.size) : (more w os d).heap[n]? = w.heap[n]? := heap_more n hn
@[go_sem] theorem heap_drew_any (n : Nat) : w.drew.heap[n]? = w.heap[n]? := rfl
@[go_sem] theorem heap_rd_at (g : Nat) (v : Value) (p : Int) (hg : g < w.heap.size) : (rd w g v p).heap[g]? = some (rdObj v p) := heap_rd_same hg
end
theorem below_rd {B : Nat} {a w : World} (h : Below B a w) {g : Nat} (hB : B ≤ g) (v : Value) (p : Int) : Below B a (rd w g v p) :=
  h.trans ⟨rfl, rfl, rfl, by rw [size_rd]; omega, fun k hk => heap_rd_other k (by omega)⟩

/-- The bytes of a code, in blocks below B. -/
def HasB (W : World) (B : Nat) (a : Option Addr) (len : Nat) : Prop :=
  len = 0 ∨ ∃ (b off : Nat) (z : Nat → Int), a = some ⟨b, off, none⟩ ∧ b < B ∧ ∀ i, i < len → W.cell? ⟨b, off + i, none⟩ = some (.int .u8 (z i)) ∧ 0 ≤ z i ∧ z i ≤ 255
theorem HasB.below {W W' : World} {B : Nat} {a : Option Addr} {len : Nat} (h : HasB W B a len) (hb : Below B W W') : HasB W' B a len := by
  rcases h with h | ⟨b, off, z, rfl, hlt, hz⟩
  · exact Or.inl h
  · exact Or.inr ⟨b, off, z, rfl, hlt, fun i hi => ⟨by rw [hb.cell (p := ⟨b, off + i, none⟩) hlt]; exact (hz i hi).1, (hz i hi).2⟩⟩
theorem HasB.less {W : World} {B : Nat} {a : Option Addr} {len len' : Nat} (h : HasB W B a len) (hl : len' ≤ len) : HasB W B a len' := by
  rcases h with h | ⟨b, off, z, rfl, hlt, hz⟩
  · exact Or.inl (by omega)
  · exact Or.inr ⟨b, off, z, rfl, hlt, fun i hi => hz i (by omega)⟩

/-- xor of two numbers that are not negative. -/
theorem xor_i64 (x y : Int) (hx : 0 ≤ x) (hx2 : x < 4611686018427387904) (hy : 0 ≤ y) (hy2 : y < 4611686018427387904) : 0 ≤ bits .xor .i64 x y ∧ bits .xor .i64 x y < 4611686018427387904 := by
  obtain ⟨a, rfl⟩ := Int.eq_ofNat_of_zero_le hx
  obtain ⟨b, rfl⟩ := Int.eq_ofNat_of_zero_le hy
  have hlt : a ^^^ b < 2 ^ 62 := Nat.xor_lt_two_pow (by omega) (by omega)
  have h1 : (BitVec.ofInt 64 (a : Int)).toNat = a := by
    rw [BitVec.ofInt_natCast, BitVec.toNat_ofNat]; exact Nat.mod_eq_of_lt (by omega)
  have h2 : (BitVec.ofInt 64 (b : Int)).toNat = b := by
    rw [BitVec.ofInt_natCast, BitVec.toNat_ofNat]; exact Nat.mod_eq_of_lt (by omega)
  have e : bits .xor .i64 (a : Int) (b : Int) = ((a ^^^ b : Nat) : Int) := by
    show IntKind.i64.wrap ((BitVec.ofInt 64 (a : Int) ^^^ BitVec.ofInt 64 (b : Int)).toNat : Int) = _
    rw [BitVec.toNat_xor, h1, h2, IntKind.wrap_i64]
    omega
  rw [e]; omega

theorem drewN_more (w : World) (n : Nat) : w.drewN n = more w #[] (w.drawn + n) := by cases w; simp [more, World.drewN]

/-- What a pick of n numbers gives. -/
def PickOk (n k : Int) : Prop := 0 ≤ k ∧ (1 ≤ n → k < n) ∧ (n < 1 → k = 0)

def PickPost (w : World) (g : Nat) (v : Value) (p n : Int) (e : Ending) (w' : World) : Prop := ∃ k d, e = .returned (.int .i64 k) ∧ PickOk n k ∧ w' = more (rd w g v (p + 1)) #[] d

set_option maxRecDepth 100000 in
set_option maxHeartbeats 1000000 in
theorem pick_rd (w : World) (B g : Nat) (a : Option Addr) (len cap : Nat) (p n : Int) (hg : g < w.heap.size) (hv : HasB (rd w g (.slice a len cap) p) B a len) (hB : B ≤ g) (hl : len ≤ 2000) (hp : 0 ≤ p) (hp2 : p ≤ 1000000) (hn : n ≤ 1000000) :
    Calls Try.prog 35 #[.pointer (some ⟨g, 0, none⟩), .int .i64 n] (rd w g (.slice a len cap) p) (PickPost w g (.slice a len cap) p n) := by
  by_cases h1 : n < 1
  · go_enter Try.func35, Try.ntmps35
    go_wp2
    go_ret
    exact ⟨0, _, rfl, ⟨by omega, fun h => by omega, fun _ => rfl⟩, more_self _⟩
  · by_cases h2 : len = 0
    · subst h2
      go_enter Try.func35, Try.ntmps35
      go_wp2
      go_ret
      exact ⟨0, _, rfl, ⟨by omega, fun h => by omega, fun _ => rfl⟩, more_self _⟩
    · have hlen0 : ((len : Int) == 0) = false := by rw [beq_eq_false_iff_ne]; omega
      rcases hv with hv | ⟨b, off, z, rfl, hlt, hz⟩
      · omega
      · have hbg : b ≠ g := by omega
        obtain ⟨q, rfl⟩ := Int.eq_ofNat_of_zero_le hp
        have hn1 : 1 ≤ n := by omega
        by_cases h3 : q < len
        · obtain ⟨hc0, hz0, hz1⟩ := hz q h3
          rw [cell_rd_other _ _ hbg] at hc0
          clear hz
          go_enter Try.func35, Try.ntmps35
          go_wp2
          go_ret
          exact ⟨_, _, rfl, ⟨Int.emod_nonneg _ (by omega), fun _ => Int.emod_lt_of_pos _ (by omega), fun h => by omega⟩, more_self _⟩
        · obtain ⟨hc0, hz0, hz1⟩ := hz (q % len) (Nat.mod_lt _ (by omega))
          obtain ⟨hc2, hz2, hz3⟩ := hz ((q * 7 + 3) % len) (Nat.mod_lt _ (by omega))
          rw [cell_rd_other _ _ hbg] at hc0 hc2
          clear hz
          have m0 : 0 ≤ (q : Int) % len := Int.emod_nonneg _ (by omega)
          have m1 : (q : Int) % len < len := Int.emod_lt_of_pos _ (by omega)
          have m2 : 0 ≤ ((q : Int) * 7 + 3) % len := Int.emod_nonneg _ (by omega)
          have m3 : ((q : Int) * 7 + 3) % len < len := Int.emod_lt_of_pos _ (by omega)
          have d0 : 0 ≤ (q : Int) / len := Int.ediv_nonneg (by omega) (by omega)
          have d1 : (q : Int) / len ≤ q := Int.ediv_le_self _ (by omega)
          go_enter Try.func35, Try.ntmps35
          go_wp2
          go_quiet (fail)
          go_wp2
          obtain ⟨x0, x1⟩ := xor_i64 (z (q % len) * 131 + z ((q * 7 + 3) % len) * 1117 + (q : Int) * 29 + (q : Int) / len * 53) ((z (q % len) * 131 + z ((q * 7 + 3) % len) * 1117 + (q : Int) * 29 + (q : Int) / len * 53) / 64) (by omega) (by omega) (by omega) (by omega)
          go_ret
          exact ⟨_, _, rfl, ⟨Int.tmod_nonneg _ x0, fun _ => Int.tmod_lt_of_pos _ (by omega), fun h => by omega⟩, drewN_more _ _⟩

theorem pick_any (W w0 : World) (B g : Nat) (a : Option Addr) (len cap : Nat) (p n : Int) (hgb : W.heap[g]? = some (rdObj (.slice a len cap) p)) (hv : HasB w0 B a len) (hbel : Below B w0 W) (hB : B ≤ g) (hl : len ≤ 2000) (hp : 0 ≤ p) (hp2 : p ≤ 1000000) (hn : n ≤ 1000000) :
    Calls Try.prog 35 #[.pointer (some ⟨g, 0, none⟩), .int .i64 n] W (PickPost W g (.slice a len cap) p n) := by
  have e := rd_self hgb
  have hg : g < W.heap.size := by
    by_cases h : g < W.heap.size
    · exact h
    · rw [Array.getElem?_eq_none (by omega)] at hgb; cases hgb
  have h := pick_rd W B g a len cap p n hg (by rw [← e]; exact hv.below hbel) hB hl hp hp2 hn
  rw [← e] at h
  exact h
end Go.Proofs.Ytmoajpkgdimdaaa
end
section -- a part
namespace Go.Proofs.Ytmoajpkgdimdaaa
open Go.RowKit

/-- What an opened reader is: a new block that holds at most 2000 bytes of the code. -/
def OpenPost (w : World) (a : Option Addr) (len cap : Nat) (e : Ending) (w' : World) : Prop :=
  ∃ len' : Nat, len' ≤ len ∧ len' ≤ 2000 ∧ e = .returned (.pointer (some ⟨w.heap.size, 0, none⟩)) ∧ w' = w.alloc (rdObj (.slice a len' cap) 0)

theorem open_any (w : World) (a : Option Addr) (len cap : Nat) (hl : len ≤ 1048576) (hc : len ≤ cap) :
    Calls Try.prog 30 #[.slice a len cap] w (OpenPost w a len cap) := by
  by_cases h : len ≤ 2000
  · go_enter Try.func30, Try.ntmps30
    go_wp2
    go_ret
    exact ⟨len, by omega, h, rfl, rfl⟩
  · have h2 : 2000 ≤ cap := by omega
    go_enter Try.func30, Try.ntmps30
    go_wp2
    all_goals (try go_ret)
    all_goals exact ⟨2000, by omega, by omega, rfl, rfl⟩
end Go.Proofs.Ytmoajpkgdimdaaa
end
