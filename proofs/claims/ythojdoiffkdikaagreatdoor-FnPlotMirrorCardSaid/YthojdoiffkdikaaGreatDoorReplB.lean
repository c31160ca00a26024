/- A replacer of bytes is built. -/
import Derived.Test.YthojdoiffkdikaaGreatDoorRepl
import Derived.Deep.MidRow
import Derived.Deep.WholeRow
import Derived.Deep.DeepCutAuto
namespace Go.Proofs.YthojdoiffkdikaaGreatDoor
open Go.RowKit Go.PlotT

/-- What is exchanged. -/
def pairs : List Wd := [[101], [119], [119], [101]]
theorem zeroCells_eq : Tryz.zeroCells164 = Array.replicate 256 (.int .u8 0) := by kernel_rfl
theorem store_zero (w : World) : (storeCells ⟨w.heap.size, 0, none⟩ Tryz.zeroCells164.toList).run Tryz.prog (w.alloc (.cells Tryz.zeroCells164 164)) = .ok () (w.alloc (.cells Tryz.zeroCells164 164)) := by
  have h := run_storeCells_atF Tryz.prog w.heap.size 0 164 (0, 0) Tryz.zeroCells164.toList 0 Tryz.zeroCells164 (w.alloc (.cells Tryz.zeroCells164 164)) (heap_alloc_new w _) (by simp) (by simp) (by
    rw [zeroCells_eq, Array.toList_replicate]
    intro v hv
    rw [List.eq_of_mem_replicate hv]; rfl)
  rw [h]
  simp only [Nat.add_zero, List.take_zero, List.nil_append, Nat.zero_add, Array.length_toList]
  rw [List.drop_of_length_le (by simp), List.append_nil, Array.toArray_toList, setRow_self _ _ _ _ _ (heap_alloc_new w _)]
/-- The table while it is filled: the first i bytes are their own places. -/
def Fill (w : World) (R i : Nat) : Prop := ∀ k, k < 256 → w.cell? ⟨R, k, none⟩ = some (.int .u8 (if k < i then (k : Int) else 0)) ∧ w.frozen? ⟨R, k, none⟩ = false
theorem Fill.new (w : World) : Fill (w.alloc (.cells Tryz.zeroCells164 164)) w.heap.size 0 := by
  intro k hk
  constructor
  · rw [new_cell, zeroCells_eq, if_neg (by omega)]
    simp [hk]
  · unfold World.frozen?
    rw [heap_alloc_new]; rfl
theorem Fill.next {w : World} {R i : Nat} (h : Fill w R i) (hi : i < 256) : Fill (w.setCell ⟨R, i, none⟩ (.int .u8 i)) R (i + 1) := by
  intro k hk
  rw [World.frozen?_setCell]
  refine ⟨?_, (h k hk).2⟩
  by_cases e : i = k
  · subst e
    rw [if_pos (by omega)]
    exact World.cell?_setCell_same _ _ _ (h i hi).1
  · rw [World.cell?_setCell_other _ _ _ _ (fun e2 => e (by injection e2)), (h k hk).1]
    congr 2
    by_cases h1 : k < i
    · rw [if_pos h1, if_pos (by omega)]
    · rw [if_neg h1, if_neg (by omega)]
/-- The table holds f. -/
def FillF (w : World) (R : Nat) (f : Nat → Int) : Prop := ∀ k, k < 256 → w.cell? ⟨R, k, none⟩ = some (.int .u8 (f k)) ∧ w.frozen? ⟨R, k, none⟩ = false
theorem Fill.full {w : World} {R : Nat} (h : Fill w R 256) : FillF w R (fun k => k) := fun k hk => by
  have := h k hk
  rw [if_pos hk] at this
  exact this
theorem FillF.store {w : World} {R j : Nat} {f : Nat → Int} (h : FillF w R f) (hj : j < 256) (v : Int) : FillF (w.setCell ⟨R, j, none⟩ (.int .u8 v)) R (fun k => if k = j then v else f k) := by
  intro k hk
  rw [World.frozen?_setCell]
  refine ⟨?_, (h k hk).2⟩
  by_cases e : j = k
  · subst e
    show _ = some (Value.int IntKind.u8 (if j = j then v else f j))
    rw [if_pos rfl]
    exact World.cell?_setCell_same _ _ _ (h j hj).1
  · show _ = some (Value.int IntKind.u8 (if k = j then v else f k))
    rw [World.cell?_setCell_other _ _ _ _ (fun e2 => e (by injection e2)), (h k hk).1, if_neg (fun e2 : k = j => e e2.symm)]
theorem FillF.tab {w : World} {R : Nat} (h : FillF w R (fun k => if k = 101 then 119 else if k = 119 then 101 else (k : Int))) : TabIs w R := by
  intro c
  rw [(h c.toNat c.toNat_lt).1]
  have : ∀ n : Fin 256, (if n.val = 101 then (119 : Int) else if n.val = 119 then 101 else (n.val : Int)) = ((swB (UInt8.ofNat n.val)).toNat : Int) := by decide +kernel
  have h2 := this ⟨c.toNat, c.toNat_lt⟩
  simp only [UInt8.ofNat_toNat] at h2
  rw [← h2]
set_option maxRecDepth 100000 in
set_option maxHeartbeats 2000000 in
theorem build_any (b g cap : Nat) (w : World) (hl : Lies w g pairs) (hc : w.cell? ⟨b, 4, none⟩ = some (.slice (some ⟨g, 0, none⟩) 4 cap)) :
    Calls Tryz.prog 75 #[.pointer (some ⟨b, 0, none⟩)] w fun e w' => ∃ R, e = .returned (.iface 165 (.pointer (some ⟨R, 0, none⟩))) ∧ R < w'.heap.size ∧ TabIs w' R ∧ Below w.heap.size w w' ∧ w.heap.size ≤ R := by
  obtain ⟨E, hE⟩ : ∃ E : ByteArray, E = ⟨#[101]⟩ := ⟨_, rfl⟩
  obtain ⟨F, hF⟩ : ∃ F : ByteArray, F = ⟨#[119]⟩ := ⟨_, rfl⟩
  have k0 : w.cell? ⟨g, 0, none⟩ = some (.string E) := by rw [hE]; exact hl.2 0 [101] rfl
  have k1 : w.cell? ⟨g, 1, none⟩ = some (.string F) := by rw [hF]; exact hl.2 1 [119] rfl
  have k2 : w.cell? ⟨g, 2, none⟩ = some (.string F) := by rw [hF]; exact hl.2 2 [119] rfl
  have k3 : w.cell? ⟨g, 3, none⟩ = some (.string E) := by rw [hE]; exact hl.2 3 [101] rfl
  have hEs : E.size = 1 := by rw [hE]; rfl
  have hFs : F.size = 1 := by rw [hF]; rfl
  have hE0 : ∀ h : 0 < E.size, (E[0]'h).toNat = 101 := by subst hE; intro h; rfl
  have hF0 : ∀ h : 0 < F.size, (F[0]'h).toNat = 119 := by subst hF; intro h; rfl
  clear hE hF
  have hg := hl.1
  have hbw := block_lt_of_cell hc
  clear hl
  have hst0 := store_zero
  go_enter Tryz.func75, Tryz.ntmps75
  go_wp2_with fail
  go_loopw [4, 5] (fun s4 s5 wr => ∃ i : Nat, s5 = .int .i64 i ∧ (i = 0 ∨ i = 2 ∨ i = 4) ∧ s4 = .bool true ∧ wr = w) (fun _ s5 _ => 4 - (intOf s5).toNat)
  case atStart => exact ⟨0, rfl, Or.inl rfl, rfl, rfl⟩
  case round =>
    obtain ⟨i, rfl, hi, rfl, rfl⟩ := hrel
    rcases hi with rfl | rfl | rfl
    · go_wp2_with fail
      go_roundw
      case rel => exact ⟨2, rfl, Or.inr (Or.inl rfl), rfl, by trivial⟩
      case measure => simp [intOf]
    · go_wp2_with fail
      go_roundw
      case rel => exact ⟨4, rfl, Or.inr (Or.inr rfl), rfl, by trivial⟩
      case measure => simp [intOf]
    · obtain ⟨W, hW⟩ : ∃ W, W = wr := ⟨_, rfl⟩
      subst hW
      go_wp2_with fail
      go_loopw [61, 7] (fun s61 _ wq => ∃ i : Nat, s61 = .int .i64 i ∧ i ≤ 256 ∧ Hid (Fill wq W.heap.size i) ∧ Hid (Below W.heap.size W wq) ∧ W.heap.size < wq.heap.size) (fun s61 _ _ => 256 - (intOf s61).toNat)
      case atStart => exact ⟨0, rfl, by omega, Fill.new W, (Below.refl _ W).alloc (Nat.le_refl _) _, by rw [World.size_alloc]; omega⟩
      case round =>
        obtain ⟨i, rfl, hi, hf, hb, hs⟩ := hrel
        by_cases hlt : i < 256
        · have hk1 := (hf.out i hlt).1
          have hk2 := (hf.out i hlt).2
          have HN := Lib.hid (hf.out.next hlt)
          have hu8 : IntKind.u8.wrap (i : Int) = (i : Int) := by simp [IntKind.wrap, IntKind.bits, IntKind.signed]; omega
          go_wp2_with fail
          go_roundw
          case rel => exact ⟨i + 1, by go_num, by omega, HN.out, hb.out.setCell (p := ⟨W.heap.size, i, none⟩) (Nat.le_refl _) _, by rw [World.size_setCell]; exact hs⟩
          case measure => simp [intOf]; omega
        · obtain rfl : i = 256 := by omega
          have hff := hf.out.full
          have HFF := Lib.hid hff
          clear hf hff
          go_wp2_with fail
          go_loopw [8, 9, 10] (fun s8 _ _ wq => W.heap.size < wq.heap.size ∧ Hid (Below W.heap.size W wq) ∧ ((s8 = .int .i64 2 ∧ Hid (FillF wq W.heap.size (fun k => k))) ∨ (s8 = .int .i64 0 ∧ Hid (FillF wq W.heap.size (fun k => if k = 119 then 101 else (k : Int)))) ∨ (s8 = .int .i64 (-2) ∧ Hid (FillF wq W.heap.size (fun k => if k = 101 then 119 else if k = 119 then 101 else (k : Int)))))) (fun s8 _ _ _ => (intOf s8 + 2).toNat)
          case atStart => exact ⟨hs, hb.out, Or.inl ⟨rfl, HFF.out⟩⟩
          case round =>
            obtain ⟨hs2, hb2, h⟩ := hrel
            have b0 : wr.cell? ⟨g, 0, none⟩ = some (.string E) := (hb2.out.cell (p := ⟨g, 0, none⟩) hg).trans k0
            have b1 : wr.cell? ⟨g, 1, none⟩ = some (.string F) := (hb2.out.cell (p := ⟨g, 1, none⟩) hg).trans k1
            have b2 : wr.cell? ⟨g, 2, none⟩ = some (.string F) := (hb2.out.cell (p := ⟨g, 2, none⟩) hg).trans k2
            have b3 : wr.cell? ⟨g, 3, none⟩ = some (.string E) := (hb2.out.cell (p := ⟨g, 3, none⟩) hg).trans k3
            rcases h with ⟨rfl, hff⟩ | ⟨rfl, hff⟩ | ⟨rfl, hff⟩
            · have c1 : wr.cell? ⟨W.heap.size, 119, none⟩ = some (.int .u8 119) := (hff.out 119 (by omega)).1
              have c2 := (hff.out 119 (by omega)).2
              have HN := Lib.hid (hff.out.store (j := 119) (by omega) 101)
              go_wp2_with fail
              go_roundw
              case rel => exact ⟨by rw [World.size_setCell]; exact hs2, hb2.out.setCell (p := ⟨W.heap.size, 119, none⟩) (Nat.le_refl _) _, Or.inr (Or.inl ⟨rfl, HN.out⟩)⟩
              case measure => simp [intOf]
            · have c1 : wr.cell? ⟨W.heap.size, 101, none⟩ = some (.int .u8 101) := (hff.out 101 (by omega)).1
              have c2 := (hff.out 101 (by omega)).2
              have HN := Lib.hid (hff.out.store (j := 101) (by omega) 119)
              go_wp2_with fail
              go_roundw
              case rel => exact ⟨by rw [World.size_setCell]; exact hs2, hb2.out.setCell (p := ⟨W.heap.size, 101, none⟩) (Nat.le_refl _) _, Or.inr (Or.inr ⟨rfl, HN.out⟩)⟩
              case measure => simp [intOf]
            · have HT := Lib.hid hff.out.tab
              clear hff
              go_wp2_with fail
              go_returns
              exact ⟨W.heap.size, rfl, hs2, HT.out, hb2.out, Nat.le_refl _⟩
end Go.Proofs.YthojdoiffkdikaaGreatDoor
