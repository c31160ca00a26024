/- Draws of plotter programs: some text, of at most so many bytes. -/
import Derived.Test.YthojdoiffkdikaaGreatDoorPlotV
import Derived.Test.YthojdoiffkdikaaGreatDoorOpen
namespace Go.Proofs.YthojdoiffkdikaaGreatDoor
open Go.RowKit Go.PlotT

/-- A world that is another but for the reader's place, and new blocks behind. -/
structure Rd6 (w wr : World) (g : Nat) (v : Value) (p : Int) : Prop where
  os : wr.os = w.os
  tape : wr.tape = w.tape
  output : wr.output = w.output
  size : w.heap.size ≤ wr.heap.size
  block : ∀ k, k < w.heap.size → k ≠ g → wr.heap[k]? = w.heap[k]?
  rd : wr.heap[g]? = some (rdObj v p)
section
variable {w wr w2 : World} {g : Nat} {v : Value} {p p2 : Int}
theorem Rd6.refl (h : w.heap[g]? = some (rdObj v p)) : Rd6 w w g v p := ⟨rfl, rfl, rfl, Nat.le_refl _, fun _ _ _ => rfl, h⟩
theorem Rd6.below {B : Nat} (h : Rd6 w wr g v p) (hb : Below B wr w2) (h1 : g < B) (h2 : w.heap.size ≤ B) : Rd6 w w2 g v p :=
  ⟨hb.os.trans h.os, hb.tape.trans h.tape, hb.output.trans h.output, by have := hb.size; have := h.size; omega, fun k hk hne => (hb.block k (by omega)).trans (h.block k hk hne), (hb.block g h1).trans h.rd⟩
theorem Rd6.lt (h : Rd6 w wr g v p) : g < wr.heap.size := (Array.getElem?_eq_some_iff.1 h.rd).1
theorem Rd6.grow (h : Rd6 w wr g v p) (hb : Below wr.heap.size wr w2) : Rd6 w w2 g v p := h.below hb h.lt h.size
theorem Rd6.trans (h : Rd6 w wr g v p) (h2 : Rd6 wr w2 g v p2) : Rd6 w w2 g v p2 :=
  ⟨h2.os.trans h.os, h2.tape.trans h.tape, h2.output.trans h.output, by have := h2.size; have := h.size; omega, fun k hk hne => (h2.block k (by have := h.size; omega) hne).trans (h.block k hk hne), h2.rd⟩
theorem Rd6.toBelow {B : Nat} (h : Rd6 w wr g v p) (hB : B ≤ g) (hg : g < w.heap.size) : Below B w wr :=
  ⟨h.os, h.tape, h.output, h.size, fun k hk => h.block k (by omega) (by omega)⟩
theorem Rd6.lies {gl : Nat} {ws : List Wd} (h : Rd6 w wr g v p) (hl : Lies w gl ws) (hg : ¬ gl = g) : Lies wr gl ws :=
  ⟨by have := hl.1; have := h.size; omega, fun i x hx => (World.cell?_of_block (w := w) (h.block gl hl.1 hg)).trans (hl.2 i x hx)⟩
end
theorem lies_lit (w : World) (cs : Array Value) (ws : List Wd) (h : cs = (ws.map bstr).toArray) : Lies (w.alloc (.cells cs 9)) w.heap.size ws := by
  subst h
  refine ⟨by rw [World.size_alloc]; omega, fun j x hx => ?_⟩
  rw [new_cell, List.getElem?_toArray, List.getElem?_map, hx]; rfl

/-- What a draw needs of a world: the code's bytes below, the reader's place. -/
structure Drw (w0 W : World) (B g : Nat) (a : Option Addr) (len cap : Nat) (p : Int) : Prop where
  rd : W.heap[g]? = some (rdObj (.slice a len cap) p)
  hv : HasB w0 B a len
  bel : Below B w0 W
  hB : B ≤ g
  hl : len ≤ 2000
  hp : 0 ≤ p
theorem Drw.next {w0 W W' : World} {B g : Nat} {a : Option Addr} {len cap : Nat} {p p' : Int} (h : Drw w0 W B g a len cap p) (h2 : Rd6 W W' g (.slice a len cap) p') (hp : p ≤ p') : Drw w0 W' B g a len cap p' :=
  ⟨h2.rd, h.hv, h.bel.trans (h2.toBelow h.hB (Array.getElem?_eq_some_iff.1 h.rd).1), h.hB, h.hl, by have := h.hp; omega⟩
theorem Drw.lt {w0 W : World} {B g : Nat} {a : Option Addr} {len cap : Nat} {p : Int} (h : Drw w0 W B g a len cap p) : g < W.heap.size := (Array.getElem?_eq_some_iff.1 h.rd).1
def Pick6 (W : World) (g : Nat) (v : Value) (p n : Int) (e : Ending) (w' : World) : Prop := ∃ k : Int, e = .returned (.int .i64 k) ∧ 0 ≤ k ∧ k < n ∧ Rd6 W w' g v (p + 1)
theorem pick6 {w0 W : World} {B g : Nat} {a : Option Addr} {len cap : Nat} {p : Int} (h : Drw w0 W B g a len cap p) (n : Int) (hn : 1 ≤ n) (hn2 : n ≤ 1000) (hp : p ≤ 100000) :
    Calls Tryz.prog 45 #[.pointer (some ⟨g, 0, none⟩), .int .i64 n] W (Pick6 W g (.slice a len cap) p n) := by
  refine (pick_any W w0 B g a len cap p n h.rd h.hv h.bel h.hB h.hl h.hp (by omega) (by omega)).mono ?_
  rintro e w' ⟨k, d, rfl, ⟨h1, h2, -⟩, rfl⟩
  have hg := h.lt
  refine ⟨k, rfl, h1, h2 hn, ⟨rfl, rfl, rfl, by rw [size_more, size_rd]; omega, fun j hj hne => ?_, ?_⟩⟩
  · rw [heap_more _ (by rw [size_rd]; exact hj), heap_rd_other _ hne]
  · rw [heap_more _ (by rw [size_rd]; exact hg), heap_rd_same hg]
def Of6 (W : World) (g : Nat) (v : Value) (p : Int) (m : Nat) (e : Ending) (w' : World) : Prop := ∃ X : ByteArray, e = .returned (.string X) ∧ X.size ≤ m ∧ Rd6 W w' g v (p + 1)
set_option maxRecDepth 100000 in
theorem of6 {w0 W : World} {B g : Nat} {a : Option Addr} {len cap : Nat} {p : Int} (h : Drw w0 W B g a len cap p) (gl m : Nat) (ws : List Wd) (hl : Lies W gl ws) (hgl : ¬ gl = g) (h1 : 1 ≤ ws.length) (h2 : ws.length ≤ 100) (hp : p ≤ 100000) (hm : ∀ x ∈ ws, x.length ≤ m) :
    Calls Tryz.prog 46 #[.pointer (some ⟨g, 0, none⟩), .slice (some ⟨gl, 0, none⟩) ws.length ws.length] W (Of6 W g (.slice a len cap) p m) := by
  have H := Lib.hid h
  have HL := Lib.hid hl
  have HM := Lib.hid hm
  clear h hl hm
  go_enter Tryz.func46, Tryz.ntmps46
  go_wp2_with (go_at_call 45; go_must (refine (pick6 H.out ws.length (by omega) (by omega) hp).mono ?_; rintro e w1 ⟨k, rfl, hk0, hk1, hr⟩; obtain ⟨q, rfl⟩ := Int.eq_ofNat_of_zero_le hk0; have hq : q < ws.length := (by omega); have HR := Lib.hid hr; have hcq : w1.cell? ⟨gl, q, none⟩ = some (.string ⟨ws[q].toArray⟩) := (hr.lies HL.out hgl).2 q ws[q] (List.getElem?_eq_getElem hq); have hX : (⟨ws[q].toArray⟩ : ByteArray).size ≤ m := HM.out _ (List.getElem_mem hq); generalize (⟨ws[q].toArray⟩ : ByteArray) = X at hcq hX; clear hr))
  go_returns
  exact ⟨X, rfl, hX, HR.out⟩
set_option maxRecDepth 100000 in
set_option maxHeartbeats 1000000 in
theorem l6Dec_1 (w : World) : Calls Tryz.prog 71 #[.int .i64 1] w fun e w' => e = .returned (.string ⟨#[49]⟩) ∧ Below w.heap.size w w' := by
  have hcv := conv_digit 49 49 rfl w
  go_enter Tryz.func71, Tryz.ntmps71
  go_wp2_with fail
  go_returns
  exact ⟨rfl, by repeat' (first | (with_reducible exact Below.refl _ _) | (with_reducible assumption) | (with_reducible refine Below.alloc ?_ ?_ _) | (with_reducible refine below_more ?_ ?_ _ _) | (with_reducible refine below_rd ?_ ?_ _ _) | (with_reducible refine Below.drew ?_) | (with_reducible refine Below.setCell ?_ ?_ _) | go_size)⟩
set_option maxRecDepth 100000 in
set_option maxHeartbeats 1000000 in
theorem l6Dec_2 (w : World) : Calls Tryz.prog 71 #[.int .i64 2] w fun e w' => e = .returned (.string ⟨#[50]⟩) ∧ Below w.heap.size w w' := by
  have hcv := conv_digit 50 50 rfl w
  go_enter Tryz.func71, Tryz.ntmps71
  go_wp2_with fail
  go_returns
  exact ⟨rfl, by repeat' (first | (with_reducible exact Below.refl _ _) | (with_reducible assumption) | (with_reducible refine Below.alloc ?_ ?_ _) | (with_reducible refine below_more ?_ ?_ _ _) | (with_reducible refine below_rd ?_ ?_ _ _) | (with_reducible refine Below.drew ?_) | (with_reducible refine Below.setCell ?_ ?_ _) | go_size)⟩
set_option maxRecDepth 100000 in
set_option maxHeartbeats 1000000 in
theorem l6Dec_3 (w : World) : Calls Tryz.prog 71 #[.int .i64 3] w fun e w' => e = .returned (.string ⟨#[51]⟩) ∧ Below w.heap.size w w' := by
  have hcv := conv_digit 51 51 rfl w
  go_enter Tryz.func71, Tryz.ntmps71
  go_wp2_with fail
  go_returns
  exact ⟨rfl, by repeat' (first | (with_reducible exact Below.refl _ _) | (with_reducible assumption) | (with_reducible refine Below.alloc ?_ ?_ _) | (with_reducible refine below_more ?_ ?_ _ _) | (with_reducible refine below_rd ?_ ?_ _ _) | (with_reducible refine Below.drew ?_) | (with_reducible refine Below.setCell ?_ ?_ _) | go_size)⟩

theorem l6Dec_little (k : Int) (h1 : 1 ≤ k) (h4 : k ≤ 4) (w : World) : Calls Tryz.prog 71 #[.int .i64 k] w fun e w' => ∃ X : ByteArray, e = .returned (.string X) ∧ X.size = 1 ∧ Below w.heap.size w w' := by
  have hk : k = 1 ∨ k = 2 ∨ k = 3 ∨ k = 4 := by omega
  rcases hk with rfl | rfl | rfl | rfl
  · exact (l6Dec_1 w).mono fun e w' h => ⟨_, h.1, rfl, h.2⟩
  · exact (l6Dec_2 w).mono fun e w' h => ⟨_, h.1, rfl, h.2⟩
  · exact (l6Dec_3 w).mono fun e w' h => ⟨_, h.1, rfl, h.2⟩
  · exact (l6Dec_4 w).mono fun e w' h => ⟨_, h.1, rfl, h.2⟩
end Go.Proofs.YthojdoiffkdikaaGreatDoor
