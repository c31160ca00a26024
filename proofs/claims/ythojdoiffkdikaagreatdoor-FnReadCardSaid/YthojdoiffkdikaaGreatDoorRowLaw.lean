/- The reader of a code: its block, and what a pick does to it. What a law's row asks of a struct of plain numbers that came in by value; the frame of a law. An exact point that came in by value. Rows of points that came in as an argument of a law. Rows that laws own: what each call of a law on rows leaves of them. -/
import Derived.Test.YthojdoiffkdikaaGreatDoorKit
import Derived.Deep.QuietTactic
import Derived.BigQuiet
import Derived.Laws.Rows
import Derived.Lib.SmallJoins
import Derived.ChangeOld
import Derived.Test.YthojdoiffkdikaaGreatDoorCycP
import Derived.Test.YthojdoiffkdikaaGreatDoorRowA
import Derived.Deep.Slices
import Derived.Test.YthojdoiffkdikaaGreatDoorMark
section -- a part
namespace Go.Proofs.YthojdoiffkdikaaGreatDoor
open Go.RowKit

/-- The reader's block holds the slice v and the place p. -/
def rdObj (v : Value) (p : Int) : Obj := .cells #[v, .int .i64 p] 75
/-- A world in which the reader's block g holds v and p. -/
def rd (w : World) (g : Nat) (v : Value) (p : Int) : World := { w with heap := w.heap.setIfInBounds g (rdObj v p) }

section
variable {w : World} {g : Nat} {v : Value} {p : Int}
@[simp, go_sem] theorem size_rd : (rd w g v p).heap.size = w.heap.size := by simp [rd]
theorem heap_rd_same (hg : g < w.heap.size) : (rd w g v p).heap[g]? = some (rdObj v p) := by
  show (w.heap.setIfInBounds g _)[g]? = _
  rw [Array.getElem?_setIfInBounds]; simp [hg]
theorem heap_rd_other (n : Nat) (hn : n ≠ g) : (rd w g v p).heap[n]? = w.heap[n]? := by
  show (w.heap.setIfInBounds g _)[n]? = _
  rw [Array.getElem?_setIfInBounds, if_neg (fun h => hn h.symm)]
@[go_sem] theorem cell_rd0 (hg : g < w.heap.size) : (rd w g v p).cell? ⟨g, 0, none⟩ = some v := by
  have := heap_rd_same (v := v) (p := p) hg; simp [World.cell?, this, rdObj]
@[go_sem] theorem cell_rd1 (hg : g < w.heap.size) : (rd w g v p).cell? ⟨g, 1, none⟩ = some (.int .i64 p) := by
  have := heap_rd_same (v := v) (p := p) hg; simp [World.cell?, this, rdObj]
@[go_sem] theorem frozen_rd (hg : g < w.heap.size) (i : Nat) : (rd w g v p).frozen? ⟨g, i, none⟩ = false := by
  have := heap_rd_same (v := v) (p := p) hg; simp [World.frozen?, this, rdObj]
@[go_sem] theorem cell_rd_other (n i : Nat) (hn : n ≠ g) : (rd w g v p).cell? ⟨n, i, none⟩ = w.cell? ⟨n, i, none⟩ :=
  World.cell?_of_block (w := w) (heap_rd_other n hn)
@[go_sem] theorem frozen_rd_other (n i : Nat) (hn : n ≠ g) : (rd w g v p).frozen? ⟨n, i, none⟩ = w.frozen? ⟨n, i, none⟩ :=
  World.frozen?_of_block (w := w) (heap_rd_other n hn)
@[go_sem] theorem rd_rd (v' : Value) (p' : Int) : rd (rd w g v p) g v' p' = rd w g v' p' := by
  unfold rd; congr 1; apply Array.ext_getElem?; intro k; simp only [Array.getElem?_setIfInBounds, Array.size_setIfInBounds]
  by_cases h : g = k <;> simp [h]
@[go_sem] theorem rd_set (q : Int) (hg : g < w.heap.size) : (rd w g v p).setCell ⟨g, 1, none⟩ (.int .i64 q) = rd w g v q := by
  unfold rd World.setCell
  congr 1
  apply Array.ext_getElem?
  intro k
  simp only [Array.getElem?_modify, Array.getElem?_setIfInBounds]
  by_cases h : g = k
  · subst h; simp [hg, rdObj]
  · simp [h]
@[go_sem] theorem rd_alloc (o : Obj) (hg : g < w.heap.size) : rd (w.alloc o) g v p = (rd w g v p).alloc o := by
  unfold rd World.alloc; congr 1; apply Array.ext_getElem?; intro k
  simp only [Array.getElem?_setIfInBounds, Array.getElem?_push, Array.size_push, Array.size_setIfInBounds]
  by_cases h : k = w.heap.size
  · subst h; rw [if_neg (by omega)]; simp
  · by_cases h2 : g = k <;> simp [h, h2]
    subst h2; simp [hg]; omega
@[go_sem] theorem rd_alloc_at (c : Array Value) (hn : g = w.heap.size) : rd (w.alloc (.cells c 75)) g v p = w.alloc (.cells #[v, .int .i64 p] 75) := by
  subst hn
  unfold rd World.alloc; congr 1; apply Array.ext_getElem?; intro k
  simp only [Array.getElem?_setIfInBounds, Array.getElem?_push, Array.size_push]
  by_cases h : w.heap.size = k
  · subst h; simp [rdObj]
  · rw [if_neg h, if_neg (fun e => h e.symm), if_neg (fun e => h e.symm)]
@[go_sem] theorem rd_more (os : Array Obj) (d : Nat) (hg : g < w.heap.size) : rd (more w os d) g v p = more (rd w g v p) os d := by
  unfold rd more; congr 1; apply Array.ext_getElem?; intro k
  simp only [Array.getElem?_setIfInBounds, Array.getElem?_append, Array.size_append, Array.size_setIfInBounds]
  by_cases h : g = k
  · subst h; simp [hg]; omega
  · simp [h]
@[go_sem] theorem rd_drew : rd w.drew g v p = (rd w g v p).drew := rfl

/-- Where the block holds v and p already the world is that. -/
theorem rd_self (h : w.heap[g]? = some (rdObj v p)) : w = rd w g v p := by
  cases w with
  | mk heap tape drawn os output =>
    simp only [rd, World.mk.injEq, and_true]
    apply Array.ext_getElem?
    intro k
    rw [Array.getElem?_setIfInBounds]
    by_cases hk : g = k
    · subst hk; simp only at h
      have hlt : g < heap.size := by
        by_cases hl : g < heap.size
        · exact hl
        · rw [Array.getElem?_eq_none (by omega)] at h; cases h
      rw [if_pos rfl, if_pos hlt]; exact h
    · simp [hk]
end

/-! The block of the reader, found through what lies above it. -/
section
variable {w : World}
@[go_sem] theorem heap_alloc_past (o : Obj) (n : Nat) (hn : n < w.heap.size) : (w.alloc o).heap[n]? = w.heap[n]? := Below.heap_alloc w o n hn
@[go_sem] theorem heap_alloc_at (o : Obj) (n : Nat) (hn : n = w.heap.size) : (w.alloc o).heap[n]? = some o := by subst hn; exact heap_alloc_new w o
@[go_sem] theorem heap_more_past (os : Array Obj) (d n : Nat) (hn : n < w.heap.size) : (more w os d).heap[n]? = w.heap[n]? := heap_more n hn
@[go_sem] theorem heap_drew_any (n : Nat) : w.drew.heap[n]? = w.heap[n]? := rfl
@[go_sem] theorem heap_rd_at (g : Nat) (v : Value) (p : Int) (hg : g < w.heap.size) : (rd w g v p).heap[g]? = some (rdObj v p) := heap_rd_same hg
end
theorem below_rd {B : Nat} {a w : World} (h : Below B a w) {g : Nat} (hB : B ≤ g) (v : Value) (p : Int) : Below B a (rd w g v p) :=
  h.trans ⟨rfl, rfl, rfl, by rw [size_rd]; omega, fun k hk => heap_rd_other k (by omega)⟩

/-- The bytes of a code, in blocks below B. -/
def HasB (W : World) (B : Nat) (a : Option Addr) (len : Nat) : Prop :=
  len = 0 ∨ ∃ (b off : Nat) (z : Nat → Int), a = some ⟨b, off, none⟩ ∧ b < B ∧ ∀ i, i < len → W.cell? ⟨b, off + i, none⟩ = some (.int .u8 (z i)) ∧ 0 ≤ z i ∧ z i ≤ 255
theorem HasB.below {W W' : World} {B : Nat} {a : Option Addr} {len : Nat} (h : HasB W B a len) (hb : Below B W W') : HasB W' B a len := by
  rcases h with h | ⟨b, off, z, rfl, hlt, hz⟩
  · exact Or.inl h
  · exact Or.inr ⟨b, off, z, rfl, hlt, fun i hi => ⟨by rw [hb.cell (p := ⟨b, off + i, none⟩) hlt]; exact (hz i hi).1, (hz i hi).2⟩⟩
theorem HasB.less {W : World} {B : Nat} {a : Option Addr} {len len' : Nat} (h : HasB W B a len) (hl : len' ≤ len) : HasB W B a len' := by
  rcases h with h | ⟨b, off, z, rfl, hlt, hz⟩
  · exact Or.inl (by omega)
  · exact Or.inr ⟨b, off, z, rfl, hlt, fun i hi => hz i (by omega)⟩

/-- xor of two numbers that are not negative. -/
theorem xor_i64 (x y : Int) (hx : 0 ≤ x) (hx2 : x < 4611686018427387904) (hy : 0 ≤ y) (hy2 : y < 4611686018427387904) : 0 ≤ bits .xor .i64 x y ∧ bits .xor .i64 x y < 4611686018427387904 := by
  obtain ⟨a, rfl⟩ := Int.eq_ofNat_of_zero_le hx
  obtain ⟨b, rfl⟩ := Int.eq_ofNat_of_zero_le hy
  have hlt : a ^^^ b < 2 ^ 62 := Nat.xor_lt_two_pow (by omega) (by omega)
  have h1 : (BitVec.ofInt 64 (a : Int)).toNat = a := by
    rw [BitVec.ofInt_natCast, BitVec.toNat_ofNat]; exact Nat.mod_eq_of_lt (by omega)
  have h2 : (BitVec.ofInt 64 (b : Int)).toNat = b := by
    rw [BitVec.ofInt_natCast, BitVec.toNat_ofNat]; exact Nat.mod_eq_of_lt (by omega)
  have e : bits .xor .i64 (a : Int) (b : Int) = ((a ^^^ b : Nat) : Int) := by
    show IntKind.i64.wrap ((BitVec.ofInt 64 (a : Int) ^^^ BitVec.ofInt 64 (b : Int)).toNat : Int) = _
    rw [BitVec.toNat_xor, h1, h2, IntKind.wrap_i64]
    omega
  rw [e]; omega

theorem drewN_more (w : World) (n : Nat) : w.drewN n = more w #[] (w.drawn + n) := by cases w; simp [more, World.drewN]

/-- What a pick of n numbers gives. -/
def PickOk (n k : Int) : Prop := 0 ≤ k ∧ (1 ≤ n → k < n) ∧ (n < 1 → k = 0)

def PickPost (w : World) (g : Nat) (v : Value) (p n : Int) (e : Ending) (w' : World) : Prop := ∃ k d, e = .returned (.int .i64 k) ∧ PickOk n k ∧ w' = more (rd w g v (p + 1)) #[] d

set_option maxRecDepth 100000 in
set_option maxHeartbeats 1000000 in
theorem pick_rd (w : World) (B g : Nat) (a : Option Addr) (len cap : Nat) (p n : Int) (hg : g < w.heap.size) (hv : HasB (rd w g (.slice a len cap) p) B a len) (hB : B ≤ g) (hl : len ≤ 2000) (hp : 0 ≤ p) (hp2 : p ≤ 1000000) (hn : n ≤ 1000000) :
    Calls Tryz.prog 45 #[.pointer (some ⟨g, 0, none⟩), .int .i64 n] (rd w g (.slice a len cap) p) (PickPost w g (.slice a len cap) p n) := by
  by_cases h1 : n < 1
  · go_enter Tryz.func45, Tryz.ntmps45
    go_wp2
    go_ret
    exact ⟨0, _, rfl, ⟨by omega, fun h => by omega, fun _ => rfl⟩, more_self _⟩
  · by_cases h2 : len = 0
    · subst h2
      go_enter Tryz.func45, Tryz.ntmps45
      go_wp2
      go_ret
      exact ⟨0, _, rfl, ⟨by omega, fun h => by omega, fun _ => rfl⟩, more_self _⟩
    · have hlen0 : ((len : Int) == 0) = false := by rw [beq_eq_false_iff_ne]; omega
      rcases hv with hv | ⟨b, off, z, rfl, hlt, hz⟩
      · omega
      · have hbg : b ≠ g := by omega
        obtain ⟨q, rfl⟩ := Int.eq_ofNat_of_zero_le hp
        have hn1 : 1 ≤ n := by omega
        by_cases h3 : q < len
        · obtain ⟨hc0, hz0, hz1⟩ := hz q h3
          rw [cell_rd_other _ _ hbg] at hc0
          clear hz
          go_enter Tryz.func45, Tryz.ntmps45
          go_wp2
          go_ret
          exact ⟨_, _, rfl, ⟨Int.emod_nonneg _ (by omega), fun _ => Int.emod_lt_of_pos _ (by omega), fun h => by omega⟩, more_self _⟩
        · obtain ⟨hc0, hz0, hz1⟩ := hz (q % len) (Nat.mod_lt _ (by omega))
          obtain ⟨hc2, hz2, hz3⟩ := hz ((q * 7 + 3) % len) (Nat.mod_lt _ (by omega))
          rw [cell_rd_other _ _ hbg] at hc0 hc2
          clear hz
          have m0 : 0 ≤ (q : Int) % len := Int.emod_nonneg _ (by omega)
          have m1 : (q : Int) % len < len := Int.emod_lt_of_pos _ (by omega)
          have m2 : 0 ≤ ((q : Int) * 7 + 3) % len := Int.emod_nonneg _ (by omega)
          have m3 : ((q : Int) * 7 + 3) % len < len := Int.emod_lt_of_pos _ (by omega)
          have d0 : 0 ≤ (q : Int) / len := Int.ediv_nonneg (by omega) (by omega)
          have d1 : (q : Int) / len ≤ q := Int.ediv_le_self _ (by omega)
          go_enter Tryz.func45, Tryz.ntmps45
          go_wp2
          go_quiet (fail)
          go_wp2
          obtain ⟨x0, x1⟩ := xor_i64 (z (q % len) * 131 + z ((q * 7 + 3) % len) * 1117 + (q : Int) * 29 + (q : Int) / len * 53) ((z (q % len) * 131 + z ((q * 7 + 3) % len) * 1117 + (q : Int) * 29 + (q : Int) / len * 53) / 64) (by omega) (by omega) (by omega) (by omega)
          go_ret
          exact ⟨_, _, rfl, ⟨Int.tmod_nonneg _ x0, fun _ => Int.tmod_lt_of_pos _ (by omega), fun h => by omega⟩, drewN_more _ _⟩

theorem pick_any (W w0 : World) (B g : Nat) (a : Option Addr) (len cap : Nat) (p n : Int) (hgb : W.heap[g]? = some (rdObj (.slice a len cap) p)) (hv : HasB w0 B a len) (hbel : Below B w0 W) (hB : B ≤ g) (hl : len ≤ 2000) (hp : 0 ≤ p) (hp2 : p ≤ 1000000) (hn : n ≤ 1000000) :
    Calls Tryz.prog 45 #[.pointer (some ⟨g, 0, none⟩), .int .i64 n] W (PickPost W g (.slice a len cap) p n) := by
  have e := rd_self hgb
  have hg : g < W.heap.size := by
    by_cases h : g < W.heap.size
    · exact h
    · rw [Array.getElem?_eq_none (by omega)] at hgb; cases hgb
  have h := pick_rd W B g a len cap p n hg (by rw [← e]; exact hv.below hbel) hB hl hp hp2 hn
  rw [← e] at h
  exact h
end Go.Proofs.YthojdoiffkdikaaGreatDoor
end
section -- a part
namespace Go.Proofs.YthojdoiffkdikaaGreatDoor
open Go.ChangeShapes Go.WideShapes Go.ChangeAt Go.RowKit

theorem own : ownKnob Tryz.prog.godebug = none := by kernel_rfl
theorem laidOut : laidOutB Tryz.prog = true := by kernel_rfl

theorem bd {x : Int} (h : (Lit.int .i64 x).wf = true) : -9223372036854775808 ≤ x ∧ x ≤ 9223372036854775807 := by
  have := bounds_i64 h; exact this


/-- The bytes of a slice that came in. -/
theorem hasB_of_cells {W : World} {x : Addr} {len : Nat} {zs : List Int} (hl : len ≤ zs.length) (hcell : ∀ i, i < zs.length → W.cell? (x.add i) = some (.int .u8 (zs.getD i 0))) (hwz : ∀ n ∈ zs, (Lit.int .u8 n).wf = true) : HasB W W.heap.size (some x) len := by
  by_cases h0 : len = 0
  · exact Or.inl h0
  · obtain ⟨b, off, spot⟩ := x
    have hc := hcell 0 (by omega)
    have hspot : spot = none := by simpa [Addr.add] using World.cell?_spot hc
    subst hspot
    refine Or.inr ⟨b, off, fun i => zs.getD i 0, rfl, ?_, fun i hi => ⟨?_, ?_⟩⟩
    · have := block_lt_of_cell hc; simpa [Addr.add] using this
    · have := hcell i (by omega)
      by_cases hi0 : i = 0
      · subst hi0; simpa [Addr.add] using this
      · simpa [Addr.add, hi0] using this
    · have hm : zs.getD i 0 ∈ zs := by
        rw [List.getD_eq_getElem?_getD, List.getElem?_eq_getElem (by omega)]; exact List.getElem_mem _
      have := hwz _ hm
      simp [Lit.wf, IntKind.min, IntKind.max, IntKind.signed, IntKind.bits] at this
      exact this
end Go.Proofs.YthojdoiffkdikaaGreatDoor
end
section -- a part
namespace Go.Proofs.YthojdoiffkdikaaGreatDoor
open Go.ChangeShapes Go.WideShapes Go.ChangeAt Go.RowKit Go.Joins

theorem cellsA : Tryz.prog.cellsOf 57 = 8 := by kernel_rfl
theorem cellsI : Tryz.prog.cellsOf 3 = 1 := by kernel_rfl

/-- Eight cells that read as an array of numbers are numbers. -/
theorem cells8_ints {H : Type} {enc : TypeId × Value → H} {W : World} {base : Nat} {spare : Nat → Bool} {held : Bool} {fuel : Nat} {cs : List Value} {x : DataW H × List MemPlace} (hl : cs.length = 8)
    (h : DataW.trod enc Tryz.prog W base spare held fuel 57 cs = some x) : ∃ a : C8, cs = (row a).toList := by
  obtain ⟨xs, m, -, -, -, hxs, hi⟩ := DataW.trod_array Tryz.underlying57 h
  have key : ∀ i, i < 8 → ∃ n : Int, cs[i]? = some (.int .i64 n) := by
    intro i hi8
    have h1 := hi i hi8
    rw [cellsI, Nat.mul_one] at h1
    rw [List.getElem?_eq_getElem (by omega)] at h1
    obtain ⟨n, hn, -, -⟩ := DataW.trod_int Tryz.underlying3 h1
    refine ⟨n, ?_⟩
    have h2 : ((cs.drop i).take 1)[0]? = some (.int .i64 n) := by rw [hn]; rfl
    rw [List.getElem?_take_of_lt (by omega), List.getElem?_drop] at h2
    simpa using h2
  obtain ⟨n0, e0⟩ := key 0 (by omega); obtain ⟨n1, e1⟩ := key 1 (by omega); obtain ⟨n2, e2⟩ := key 2 (by omega); obtain ⟨n3, e3⟩ := key 3 (by omega)
  obtain ⟨n4, e4⟩ := key 4 (by omega); obtain ⟨n5, e5⟩ := key 5 (by omega); obtain ⟨n6, e6⟩ := key 6 (by omega); obtain ⟨n7, e7⟩ := key 7 (by omega)
  refine ⟨⟨n0, n1, n2, n3, n4, n5, n6, n7⟩, List.ext_getElem? fun i => ?_⟩
  have : i = 0 ∨ i = 1 ∨ i = 2 ∨ i = 3 ∨ i = 4 ∨ i = 5 ∨ i = 6 ∨ i = 7 ∨ 8 ≤ i := by omega
  rcases this with rfl | rfl | rfl | rfl | rfl | rfl | rfl | rfl | h8
  · exact e0
  · exact e1
  · exact e2
  · exact e3
  · exact e4
  · exact e5
  · exact e6
  · exact e7
  · rw [List.getElem?_eq_none (by omega), List.getElem?_eq_none (by simpa [row] using h8)]

end Go.Proofs.YthojdoiffkdikaaGreatDoor
end
section -- a part
namespace Go.Proofs.YthojdoiffkdikaaGreatDoor
open Go.ChangeShapes Go.WideShapes Go.ChangeAt Go.RowKit Go.Joins Go.Deep

theorem HasP.made' {w : World} {xs : List C8} {T : TypeId} {os : Array Obj} {d b : Nat} (hb : b = w.heap.size) : HasP (Go.Proofs.YthojdoiffkdikaaGreatDoor.more (w.alloc (.cells (rowsV xs) T)) os d) (some ⟨b, 0, none⟩) xs := by
  subst hb; exact HasP.made w xs T os d
end Go.Proofs.YthojdoiffkdikaaGreatDoor
end
section -- a part
namespace Go.Proofs.YthojdoiffkdikaaGreatDoor
open Go.RowKit

theorem OwnsP.keep {w w' : World} {B : Nat} {v : Value} {ys : List C8} (h : OwnsP w B v ys) (hb : Below w.heap.size w w') : OwnsP w' B v ys := by
  refine ⟨h.1, ?_⟩
  rcases h.2 with h0 | ⟨g, cap, cur, hv, hg, hh, h1, h2, h3, h4⟩
  · exact Or.inl h0
  · exact Or.inr ⟨g, cap, cur, hv, hg, (hb.block g (Array.getElem?_eq_some_iff.1 hh).1).trans hh, h1, h2, h3, h4⟩
/-- Two values do not lie in one block. -/
def Apart (v v' : Value) : Prop := ∀ k, v.ownBlock = some k → v'.ownBlock = some k → False
theorem Apart.symm {v v' : Value} (h : Apart v v') : Apart v' v := fun k a b => h k b a
theorem OwnsP.apart {w w' : World} {B B' : Nat} {v v' : Value} {ys zs : List C8} (h : OwnsP w B v ys) (h' : OwnsP w' B' v' zs) (hB : w.heap.size ≤ B') : Apart v v' := fun k a b => by
  have h1 := World.ownsRow.lt h k a
  have h2 := World.ownsRow.lt h' k b
  omega
theorem OwnsP.mark {w w' : World} {B : Nat} {v v' : Value} {ys : List C8} (h : OwnsP w B v ys) (hg : w.grownBy w' v'.ownBlock) (ha : Apart v v') : OwnsP w' B v ys := by
  refine World.ownsRow.kept h hg ?_
  cases hv : v.ownBlock with
  | none => exact Or.inl rfl
  | some k => exact Or.inr (fun e => ha k hv e.symm)
theorem HeldAt.keep {w w' : World} {v : Value} {s n : Nat} {k : Int} (h : HeldAt w v s n k) (hb : Below w.heap.size w w') : HeldAt w' v s n k := by
  rcases h with h | ⟨g, cap, rfl, hlt, hz⟩
  · exact Or.inl h
  · exact Or.inr ⟨g, cap, rfl, by have := hb.size; omega, fun x hx => by rw [hb.cell (p := ⟨g, x, none⟩) hlt]; exact hz x hx⟩
theorem below_next {B : Nat} {w w1 w2 : World} (h : Below B w w1) (hb : Below w1.heap.size w1 w2) (hB : B ≤ w.heap.size) : Below B w w2 := h.trans (hb.mono (by have := h.size; omega))
theorem below_marked {B B' : Nat} {w w1 w2 : World} {v : Value} {ys : List C8} (h : Below B w w1) (ho : OwnsP w1 B' v ys) (hg : w1.grownBy w2 v.ownBlock) (hB : B ≤ w.heap.size) (hB' : B ≤ B') : Below B w w2 :=
  Below.grown h hg (by have := h.size; omega) (fun k hk => by have := (World.ownsRow.lt ho k hk).1; omega)
/-- A call that makes a row and tells it alone. -/
def OwnPost (w : World) (xs : List C8) (e : Ending) (w' : World) : Prop := ∃ v, e = .returned v ∧ OwnsP w' w.heap.size v xs ∧ Below w.heap.size w w'
theorem OwnsP.lit (w : World) (xs : List C8) (hn : xs.length ≤ 1048576) (os : Array Obj) (d : Nat) : OwnsP (Go.Proofs.YthojdoiffkdikaaGreatDoor.more (w.alloc (.cells (rowsV xs) 59)) os d) w.heap.size (.slice (some ⟨w.heap.size, 0, none⟩) xs.length xs.length) xs :=
  OwnsP.more (World.ownsRow_lit w _ _ (Nat.le_refl _) (by unfold maxLen; omega) (by rw [rowsV_size]; omega)) os d
end Go.Proofs.YthojdoiffkdikaaGreatDoor
end
