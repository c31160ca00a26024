/- sync.Once of a replacer: built once. -/
import Derived.Test.YthojdoiffkdikaaGreatDoorOnce
namespace Go.Proofs.YthojdoiffkdikaaGreatDoor
open Go.RowKit Go.PlotT

/-- A replacer of these pairs that has been built. -/
structure Built (w : World) (b R : Nat) : Prop where
  cell : w.cell? ⟨b, 3, none⟩ = some (.iface 165 (.pointer (some ⟨R, 0, none⟩)))
  tab : TabIs w R
  lt : R < w.heap.size
  ne : ¬ R = b

theorem TabIs.setCell {w : World} {R : Nat} (h : TabIs w R) {a : Addr} (ha : ¬ R = a.block) (v : Value) : TabIs (w.setCell a v) R := fun c => by
  rw [World.cell?_setCell_other _ _ _ _ (fun hh => ha (congrArg Addr.block hh).symm)]; exact h c
theorem TabIs.drew {w : World} {R : Nat} (h : TabIs w R) : TabIs w.drew R := fun c => by
  rw [World.cell?_drew]; exact h c

set_option maxRecDepth 100000 in
set_option maxHeartbeats 1000000 in
theorem buildOnce_any (b g cap : Nat) (x3 : Value) (w : World) (hl : Lies w g pairs) (hc : w.cell? ⟨b, 4, none⟩ = some (.slice (some ⟨g, 0, none⟩) 4 cap))
    (h3 : w.cell? ⟨b, 3, none⟩ = some x3) (hz : ∀ i, w.frozen? ⟨b, i, none⟩ = false) :
    Calls Tryz.prog 50 #[.pointer (some ⟨b, 0, none⟩)] w fun e w' => e = .returned (.tuple #[]) ∧ (∃ R, Built w' b R) ∧
      w'.cell? ⟨b, 0, none⟩ = w.cell? ⟨b, 0, none⟩ ∧ w'.cell? ⟨b, 1, none⟩ = w.cell? ⟨b, 1, none⟩ ∧ (∀ i, w'.frozen? ⟨b, i, none⟩ = false) ∧ ∀ B, B ≤ b → Below B w w' := by
  have HL := Lib.hid hl
  have hb := block_lt_of_cell hc
  go_enter Tryz.func50, Tryz.ntmps50
  go_wp2_with (go_at_call 75; refine (build_any b g cap w HL.out hc).mono ?_; rintro e w1 ⟨R, rfl, hR, hT, hB, hRw⟩; have HT := Lib.hid hT; have HB := Lib.hid hB; have c3 := (hB.cell (p := ⟨b, 3, none⟩) hb).trans h3; have c4 := (hB.cell (p := ⟨b, 4, none⟩) hb).trans hc; have z3 := (hB.frozen (p := ⟨b, 3, none⟩) hb).trans (hz 3); have z4 := (hB.frozen (p := ⟨b, 4, none⟩) hb).trans (hz 4); clear hT hB)
  go_end0
  have hRb : ¬ R = b := by omega
  refine ⟨rfl, ⟨R, ⟨?_, ?_, ?_, hRb⟩⟩, ?_, ?_, ?_, ?_⟩
  · rw [World.cell?_setCell_other _ _ _ _ (by simp)]
    exact World.cell?_setCell_same _ _ _ c3
  · exact (HT.out.setCell (a := ⟨b, 3, none⟩) hRb _).setCell (a := ⟨b, 4, none⟩) hRb _
  · simp only [World.size_setCell]; exact hR
  · rw [World.cell?_setCell_other _ _ _ _ (by simp), World.cell?_setCell_other _ _ _ _ (by simp)]
    exact HB.out.cell (p := ⟨b, 0, none⟩) hb
  · rw [World.cell?_setCell_other _ _ _ _ (by simp), World.cell?_setCell_other _ _ _ _ (by simp)]
    exact HB.out.cell (p := ⟨b, 1, none⟩) hb
  · intro i
    simp only [World.frozen?_setCell]
    exact (HB.out.frozen (p := ⟨b, i, none⟩) hb).trans (hz i)
  · intro B hBb
    exact ((HB.out.mono (by omega)).setCell (p := ⟨b, 3, none⟩) hBb _).setCell (p := ⟨b, 4, none⟩) hBb _

set_option maxRecDepth 100000 in
set_option maxHeartbeats 1600000 in
/-- '(*sync.Once).doSlow', not yet done and the lock free. -/
theorem doSlow_any (b g cap : Nat) (x3 : Value) (w : World) (hl : Lies w g pairs) (hgb : ¬ g = b) (hc : w.cell? ⟨b, 4, none⟩ = some (.slice (some ⟨g, 0, none⟩) 4 cap))
    (h3 : w.cell? ⟨b, 3, none⟩ = some x3) (h0 : w.cell? ⟨b, 0, none⟩ = some (.int .u32 0)) (h1 : w.cell? ⟨b, 1, none⟩ = some (.int .i32 0)) (hz : ∀ i, w.frozen? ⟨b, i, none⟩ = false) :
    Calls Tryz.prog 74 #[.pointer (some ⟨b, 0, none⟩), .func (.func 50) #[.pointer (some ⟨b, 0, none⟩)] #[]] w fun e w' => e = .returned (.tuple #[]) ∧ (∃ R, Built w' b R) ∧ ∀ B, B ≤ b → Below B w w' := by
  have hl1 : Lies (w.setCell ⟨b, 1, none⟩ (.int .i32 1)) g pairs := ⟨by rw [World.size_setCell]; exact hl.1, fun i x hx => by
    rw [World.cell?_setCell_other _ _ _ _ (fun hh => hgb (congrArg Addr.block hh).symm)]; exact hl.2 i x hx⟩
  have HL := Lib.hid hl1
  have a0 : (w.setCell ⟨b, 1, none⟩ (.int .i32 1)).cell? ⟨b, 0, none⟩ = some (.int .u32 0) := (World.cell?_setCell_other _ _ _ _ (by simp)).trans h0
  have a1 : (w.setCell ⟨b, 1, none⟩ (.int .i32 1)).cell? ⟨b, 1, none⟩ = some (.int .i32 1) := World.cell?_setCell_same _ _ _ h1
  have a3 : (w.setCell ⟨b, 1, none⟩ (.int .i32 1)).cell? ⟨b, 3, none⟩ = some x3 := (World.cell?_setCell_other _ _ _ _ (by simp)).trans h3
  have a4 : (w.setCell ⟨b, 1, none⟩ (.int .i32 1)).cell? ⟨b, 4, none⟩ = some (.slice (some ⟨g, 0, none⟩) 4 cap) := (World.cell?_setCell_other _ _ _ _ (by simp)).trans hc
  have az : ∀ i, (w.setCell ⟨b, 1, none⟩ (.int .i32 1)).frozen? ⟨b, i, none⟩ = false := fun i => by rw [World.frozen?_setCell]; exact hz i
  have HZ := Lib.hid az
  have z1 := hz 1
  clear hl hl1 az
  have hnot : ∀ (x : Bool) (w : World), (Op.unary .not (.bool x)).run Tryz.prog w = .ok (.bool (!x)) w := fun _ _ => rfl
  go_enter_defers Tryz.func74, Tryz.ntmps74
  go_wp2_with (go_at_call 118; refine (mutex_lock ⟨b, 1, none⟩ _ h1 z1).mono ?_; rintro e w' ⟨rfl, rfl⟩)
  go_wp2_with (go_at_call 73; refine (bool_load ⟨b, 0, none⟩ 0 _ a0).mono ?_; rintro e w' ⟨rfl, rfl⟩)
  go_wp2_with (go_at_call 50; refine (buildOnce_any b g cap x3 _ HL.out a4 a3 HZ.out).mono ?_; rintro e w1 ⟨rfl, hBt, c0, c1, hz1, hB⟩)
  -- the two deferred calls, the last laid first
  refine leaves_cons (f := 120) (args := #[.pointer (some ⟨b, 0, none⟩), .bool true]) (by simp) (by simp [go_sem]) ?_
  refine (bool_store ⟨b, 0, none⟩ (.int .u32 0) .returning _ (c0.trans a0) (hz1 0)).mono ?_
  rintro e u' w'' ⟨rfl, rfl, rfl⟩
  refine leaves_cons (f := 119) (args := #[.pointer (some ⟨b, 1, none⟩)]) (by simp [settle]) (by simp [go_sem]) ?_
  have d1 : (w1.drew.setCell ⟨b, 0, none⟩ (.int .u32 1)).cell? ⟨b, 1, none⟩ = some (.int .i32 1) := by
    rw [World.cell?_setCell_other _ _ _ _ (by simp), World.cell?_drew]; exact c1.trans a1
  refine (mutex_unlock ⟨b, 1, none⟩ _ _ d1 (by simp [hz1])).mono ?_
  rintro e u' w'' ⟨rfl, rfl, rfl⟩
  obtain ⟨R, hR⟩ := hBt
  have HR : Built ((w1.drew.setCell ⟨b, 0, none⟩ (.int .u32 1)).setCell ⟨b, 1, none⟩ (.int .i32 0)) b R := by
    refine ⟨?_, (hR.tab.drew.setCell (a := ⟨b, 0, none⟩) hR.ne _).setCell (a := ⟨b, 1, none⟩) hR.ne _, ?_, hR.ne⟩
    · rw [World.cell?_setCell_other _ _ _ _ (by simp), World.cell?_setCell_other _ _ _ _ (by simp), World.cell?_drew]; exact hR.cell
    · simp only [World.size_setCell]; exact hR.lt
  have HB : ∀ B, B ≤ b → Below B w ((w1.drew.setCell ⟨b, 0, none⟩ (.int .u32 1)).setCell ⟨b, 1, none⟩ (.int .i32 0)) := fun B h => (((((Below.refl B w).setCell (p := ⟨b, 1, none⟩) h _).trans (hB B h)).drew).setCell (p := ⟨b, 0, none⟩) h _).setCell (p := ⟨b, 1, none⟩) h _
  have HH : (∃ R, Built ((w1.drew.setCell ⟨b, 0, none⟩ (.int .u32 1)).setCell ⟨b, 1, none⟩ (.int .i32 0)) b R) ∧ ∀ B, B ≤ b → Below B w ((w1.drew.setCell ⟨b, 0, none⟩ (.int .u32 1)).setCell ⟨b, 1, none⟩ (.int .i32 0)) := ⟨⟨R, HR⟩, HB⟩
  generalize ((w1.drew.setCell ⟨b, 0, none⟩ (.int .u32 1)).setCell ⟨b, 1, none⟩ (.int .i32 0)) = W at HH ⊢
  simp [Leaves, settle, results, Tryz.results74]
  exact HH

set_option maxRecDepth 100000 in
set_option maxHeartbeats 1600000 in
/-- '(*sync.Once).Do', not yet done, the lock free. -/
theorem onceDo_any (b g cap : Nat) (x3 : Value) (w : World) (hl : Lies w g pairs) (hgb : ¬ g = b) (hc : w.cell? ⟨b, 4, none⟩ = some (.slice (some ⟨g, 0, none⟩) 4 cap))
    (h3 : w.cell? ⟨b, 3, none⟩ = some x3) (h0 : w.cell? ⟨b, 0, none⟩ = some (.int .u32 0)) (h1 : w.cell? ⟨b, 1, none⟩ = some (.int .i32 0)) (hz : ∀ i, w.frozen? ⟨b, i, none⟩ = false) :
    Calls Tryz.prog 49 #[.pointer (some ⟨b, 0, none⟩), .func (.func 50) #[.pointer (some ⟨b, 0, none⟩)] #[]] w fun e w' => e = .returned (.tuple #[]) ∧ (∃ R, Built w' b R) ∧ ∀ B, B ≤ b → Below B w w' := by
  have HL := Lib.hid hl
  have HZ := Lib.hid hz
  clear hl hz
  have hnot : ∀ (x : Bool) (w : World), (Op.unary .not (.bool x)).run Tryz.prog w = .ok (.bool (!x)) w := fun _ _ => rfl
  go_enter Tryz.func49, Tryz.ntmps49
  go_wp2_with (go_at_call 73; refine (bool_load ⟨b, 0, none⟩ 0 _ h0).mono ?_; rintro e w' ⟨rfl, rfl⟩)
  go_wp2_with (go_at_call 74; refine (doSlow_any b g cap x3 _ HL.out hgb hc h3 h0 h1 HZ.out).mono ?_; rintro e w1 ⟨rfl, hBt, hB⟩)
  go_end0
  exact ⟨rfl, hBt, hB⟩
end Go.Proofs.YthojdoiffkdikaaGreatDoor
