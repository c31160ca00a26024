/- Plotter programs of the program: the reader. -/
import Derived.Test.YthojdoiffkdikaaGreatDoorPlotI
namespace Go.Proofs.YthojdoiffkdikaaGreatDoor
open Go.RowKit Go.PlotT

/-- What need gives. -/
def NeedPost : Bool → World → Ending → World → Prop
  | true, w, e, w' => e = .returned (.tuple #[]) ∧ w = w'
  | false, w, e, w' => e = .panicked noProg ∧ w = w'
theorem need_any (c : Bool) (w : World) : Calls Tryz.prog 53 #[.bool c] w (NeedPost c w) := by
  cases c
  · exact need_false w
  · exact need_true w

/-- The reader's block. -/
def RB (wv : Value) (j : Nat) : Obj := .cells #[wv, .int .i64 j] 101 (0, 0)
/-- A world that is another but for the reader's place, and new blocks behind. -/
structure Rdr (w wr : World) (b : Nat) (wv : Value) (j : Nat) : Prop where
  os : wr.os = w.os
  tape : wr.tape = w.tape
  output : wr.output = w.output
  size : w.heap.size ≤ wr.heap.size
  block : ∀ k, k < w.heap.size → k ≠ b → wr.heap[k]? = w.heap[k]?
  rd : wr.heap[b]? = some (RB wv j)
section
variable {w wr w2 : World} {b j : Nat} {wv : Value}
theorem Rdr.refl (h : w.heap[b]? = some (RB wv j)) : Rdr w w b wv j := ⟨rfl, rfl, rfl, Nat.le_refl _, fun _ _ _ => rfl, h⟩
theorem Rdr.lt (h : Rdr w wr b wv j) : b < wr.heap.size := (Array.getElem?_eq_some_iff.1 h.rd).1
theorem Rdr.c0 (h : Rdr w wr b wv j) : wr.cell? ⟨b, 0, none⟩ = some wv := by unfold World.cell?; rw [h.rd]; rfl
theorem Rdr.c1 (h : Rdr w wr b wv j) : wr.cell? ⟨b, 1, none⟩ = some (.int .i64 j) := by unfold World.cell?; rw [h.rd]; rfl
theorem Rdr.f1 (h : Rdr w wr b wv j) : wr.frozen? ⟨b, 1, none⟩ = false := by unfold World.frozen?; rw [h.rd]; rfl
theorem Rdr.nq (h : Rdr w wr b wv j) (n : Nat) : Rdr w (wr.drewN n) b wv j := ⟨h.os, h.tape, h.output, h.size, h.block, h.rd⟩
theorem Rdr.store (h : Rdr w wr b wv j) {z : Int} {j' : Nat} (hz : z = j') : Rdr w (wr.setCell ⟨b, 1, none⟩ (.int .i64 z)) b wv j' := by
  subst hz
  refine ⟨h.os, h.tape, h.output, by rw [World.size_setCell]; exact h.size, fun k hk hne => ?_, ?_⟩
  · rw [Below.heap_setCell _ _ _ _ hne]; exact h.block k hk hne
  · unfold World.setCell
    rw [Array.getElem?_modify, if_pos rfl, h.rd]; rfl
theorem Rdr.below {B : Nat} (h : Rdr w wr b wv j) (hb : Below B wr w2) (h1 : b < B) (h2 : w.heap.size ≤ B) : Rdr w w2 b wv j :=
  ⟨hb.os.trans h.os, hb.tape.trans h.tape, hb.output.trans h.output, by have := hb.size; have := h.size; omega, fun k hk hne => (hb.block k (by omega)).trans (h.block k hk hne), (hb.block b h1).trans h.rd⟩
theorem Rdr.trans {j2 : Nat} (h : Rdr w wr b wv j) (h2 : Rdr wr w2 b wv j2) : Rdr w w2 b wv j2 :=
  ⟨h2.os.trans h.os, h2.tape.trans h.tape, h2.output.trans h.output, by have := h2.size; have := h.size; omega, fun k hk hne => (h2.block k (by have := h.size; omega) hne).trans (h.block k hk hne), h2.rd⟩
theorem Rdr.toBelow {B : Nat} (h : Rdr w wr b wv j) (hB : B ≤ b) (hbw : b < w.heap.size) : Below B w wr :=
  ⟨h.os, h.tape, h.output, h.size, fun k hk => h.block k (by omega) (by omega)⟩
theorem Rdr.lies {g : Nat} {ws : List Wd} (h : Rdr w wr b wv j) (hl : Lies w g ws) (hg : ¬ g = b) : Lies wr g ws :=
  ⟨by have := hl.1; have := h.size; omega, fun i x hx => (World.cell?_of_block (w := w) (h.block g hl.1 hg)).trans (hl.2 i x hx)⟩
end
/-- Where the reader is. -/
def atOf (b : Nat) (w : World) : Nat := match w.cell? ⟨b, 1, none⟩ with
  | some (.int _ n) => n.toNat
  | _ => 0
theorem Rdr.at {w wr : World} {b j : Nat} {wv : Value} (h : Rdr w wr b wv j) : atOf b wr = j := by
  unfold atOf; rw [h.c1]; simp

/-- The builder, whatever turned below it. -/
abbrev Bld (B b : Nat) (l : List UInt8) (w : World) : Prop := Lib.IsBuilderF 127 5 B b (Lib.byteCells l) w
theorem bAt_same {B b : Nat} {p : Value} {bs : List Value} {w w' : World} (h : Lib.BuilderAtF 127 5 B b p bs w) (hk : ∀ k, B ≤ k → k < w.heap.size → w'.heap[k]? = w.heap[k]?) : Lib.BuilderAtF 127 5 B b p bs w' := by
  obtain ⟨hB, v, hb, hown, hne⟩ := h
  refine ⟨hB, v, (hk b hB (Array.getElem?_eq_some_iff.1 hb).1).trans hb, ⟨hown.1, ?_⟩, hne⟩
  rcases hown.2 with h0 | ⟨g, cap, cur, fz, hv, hbg, hg, rest⟩
  · exact Or.inl h0
  · exact Or.inr ⟨g, cap, cur, fz, hv, hbg, (hk g hbg (Array.getElem?_eq_some_iff.1 hg).1).trans hg, rest⟩
theorem Bld.same {B b : Nat} {l : List UInt8} {w w' : World} (h : Bld B b l w) (hk : ∀ k, B ≤ k → k < w.heap.size → w'.heap[k]? = w.heap[k]?) : Bld B b l w' :=
  h.elim (fun x => Or.inl (bAt_same x hk)) (fun x => Or.inr (bAt_same x hk))
theorem Bld.below {B b : Nat} {l : List UInt8} {w w' : World} (h : Bld B b l w) (hb : Below w.heap.size w w') : Bld B b l w' := h.same fun k _ hk => hb.block k hk
theorem Bld.store {B b r : Nat} {l : List UInt8} {w : World} (h : Bld B b l w) (hr : r < B) (v : Value) : Bld B b l (w.setCell ⟨r, 1, none⟩ v) :=
  h.same fun k hk _ => Below.heap_setCell _ _ _ _ (by show k ≠ r; omega)
theorem Bld.rdr {B b r j : Nat} {wv : Value} {l : List UInt8} {w w' : World} (h : Bld B b l w) (hr : r < B) (hb : Rdr w w' r wv j) : Bld B b l w' := h.same fun k hk hk2 => hb.block k hk2 (by omega)
theorem Bld.wrote {B b : Nat} {l : List UInt8} {s : ByteArray} {w : World} (h : Lib.BuilderAtF 127 5 B b (.pointer (some ⟨b, 0, none⟩)) (Lib.byteCells l ++ Lib.strCells s) w) : Bld B b (l ++ s.data.toList) w := by
  have e : Lib.byteCells l ++ Lib.strCells s = Lib.byteCells (l ++ s.data.toList) := by simp [Lib.byteCells, Lib.strCells]
  rw [e] at h
  exact Or.inr h
theorem Bld.new (w : World) : Bld w.heap.size w.heap.size [] (w.alloc (.cells #[.pointer none, .slice none 0 0] 127)) :=
  Or.inl ⟨Nat.le_refl _, .slice none 0 0, heap_alloc_new _ _, World.ownsRowF_nil _ _ _ _, by simp [Value.ownBlock]⟩

/-- What reading gives. -/
def UntilPost (w : World) (b : Nat) (wv : Value) (ws : List Wd) (r : Option (List Wd × List Wd)) (e : Ending) (w' : World) : Prop :=
  match r with
  | some (o, rest) => e = .returned (.string ⟨o.flatten.toArray⟩) ∧ Rdr w w' b wv (ws.length - rest.length)
  | none => e = .panicked noProg ∧ ∃ j, Rdr w w' b wv j
theorem UntilPost.no {w w' : World} {b : Nat} {wv : Value} {ws : List Wd} {r : Option (List Wd × List Wd)} {e : Ending} (hr : r = none) (he : e = .panicked noProg) {j : Nat} (h : Rdr w w' b wv j) : UntilPost w b wv ws r e w' := by
  rw [hr]; exact ⟨he, j, h⟩
theorem UntilPost.yes {w w' : World} {b : Nat} {wv : Value} {ws o rest : List Wd} {r : Option (List Wd × List Wd)} {e : Ending} (hr : r = some (o, rest)) (he : e = .returned (.string ⟨o.flatten.toArray⟩)) (h : Rdr w w' b wv (ws.length - rest.length)) : UntilPost w b wv ws r e w' := by
  rw [hr]; exact ⟨he, h⟩
theorem repeatL_flat (l : List UInt8) : ∀ k, Lib.repeatL l k = (List.replicate k l).flatten
  | 0 => rfl
  | k + 1 => by rw [Lib.repeatL, repeatL_flat l k, List.replicate_succ, List.flatten_cons]
theorem rep_bytes (body : List Wd) : ∀ k, ((List.replicate k body).flatten).flatten = (List.replicate k body.flatten).flatten
  | 0 => rfl
  | k + 1 => by rw [List.replicate_succ, List.flatten_cons, List.flatten_append, rep_bytes body k, List.replicate_succ, List.flatten_cons]
end Go.Proofs.YthojdoiffkdikaaGreatDoor
