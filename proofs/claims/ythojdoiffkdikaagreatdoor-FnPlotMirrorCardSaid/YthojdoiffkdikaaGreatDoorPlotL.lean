/- Plotter programs of the program: the steps of a text. -/
import Derived.Test.YthojdoiffkdikaaGreatDoorPlotK
import Derived.Recover
import Derived.Laws.Pointers
namespace Go.Proofs.YthojdoiffkdikaaGreatDoor
open Go.RowKit Go.PlotT

set_option maxRecDepth 100000 in
set_option maxHeartbeats 400000 in
theorem catch_panicking (p q : Nat) (v0 v1 : Value) (w : World) (hc : w.cell? ⟨p, 0, none⟩ = some v0) (hd : w.cell? ⟨q, 0, none⟩ = some v1) (hz : w.frozen? ⟨p, 0, none⟩ = false) (hy : w.frozen? ⟨q, 0, none⟩ = false) (hpq : ¬ p = q) :
    CallsD Tryz.prog 52 #[.pointer (some ⟨p, 0, none⟩), .pointer (some ⟨q, 0, none⟩)] (.panicking noProg) w fun e u' w' =>
      e = .returned (.tuple #[]) ∧ u' = .panicking [{ v := .iface 96 (.agg #[]), recovered := true }] ∧ Below w.heap.size ((w.setCell ⟨p, 0, none⟩ (.string ⟨#[]⟩)).setCell ⟨q, 0, none⟩ (.bool false)) w' := by
  refine callsD_of_wpS Tryz.func52 rfl fun c₀ cs hu => ?_
  have hta : ∀ w : World, (Instr.typeAssert (.iface 96 (.agg #[])) 20 96 true).run Tryz.prog w = .ok (.tuple #[.agg #[], .bool true]) w := fun _ => by kernel_rfl
  have e0 : #[Value.pointer (some ⟨p, 0, none⟩), Value.pointer (some ⟨q, 0, none⟩)] ++ Array.replicate (Tryz.f52.ntmps - #[Value.pointer (some ⟨p, 0, none⟩), Value.pointer (some ⟨q, 0, none⟩)].size) undef = #[.pointer (some ⟨p, 0, none⟩), .pointer (some ⟨q, 0, none⟩), undef, undef, undef, undef, undef, undef, undef, undef, undef] := by
    rw [show Tryz.f52.ntmps = 11 by kernel_rfl]
    rfl
  rw [e0]
  have hp1 : p < w.heap.size := block_lt_of_cell hc
  have hq1 : q < w.heap.size := block_lt_of_cell hd
  apply wpS_seq
  apply wpS_region
  simp [wpOpsS, go_sem, recoverD, hu, noProg, Exit.thenS]
  refine wpS_of_wp ?_
  go_wp2
  exact ⟨rfl, _, rfl, .tuple #[], by kernel_rfl, rfl, rfl, (Below.refl _ _).alloc (by rw [World.size_setCell, World.size_setCell]; exact Nat.le_refl _) _⟩

set_option maxRecDepth 100000 in
set_option maxHeartbeats 400000 in
theorem catch_idle (p q : Nat) (w : World) :
    CallsD Tryz.prog 52 #[.pointer (some ⟨p, 0, none⟩), .pointer (some ⟨q, 0, none⟩)] .returning w fun e u' w' => e = .returned (.tuple #[]) ∧ u' = .returning ∧ w' = w := by
  refine callsD_of_wpS Tryz.func52 rfl fun c₀ cs hu => ?_
  have e0 : #[Value.pointer (some ⟨p, 0, none⟩), Value.pointer (some ⟨q, 0, none⟩)] ++ Array.replicate (Tryz.f52.ntmps - #[Value.pointer (some ⟨p, 0, none⟩), Value.pointer (some ⟨q, 0, none⟩)].size) undef = #[.pointer (some ⟨p, 0, none⟩), .pointer (some ⟨q, 0, none⟩), undef, undef, undef, undef, undef, undef, undef, undef, undef] := by
    rw [show Tryz.f52.ntmps = 11 by kernel_rfl]
    rfl
  rw [e0]
  have hnil : ∀ w : World, (binOp BinOp.eql 20 .nilIface .nilIface).run Tryz.prog w = .ok (.bool true) w := fun _ => by kernel_rfl
  apply wpS_seq
  apply wpS_region
  simp [wpOpsS, go_sem, recoverD, hu, Exit.thenS]
  refine wpS_of_wp ?_
  go_wp2
  cases c₀
  simp only at hu
  subst hu
  exact ⟨rfl, _, rfl, .tuple #[], by kernel_rfl, rfl, rfl, rfl⟩

/-- The bytes of a text's steps; none. -/
def stepsB (l : Wd) : Wd := match prog l with
  | some o => o.flatten
  | none => []
def StepsPost (w : World) (l : Wd) (e : Ending) (w' : World) : Prop := e = .returned (.tuple #[.string ⟨(stepsB l).toArray⟩, .bool (prog l).isSome]) ∧ Below w.heap.size w w'
set_option maxRecDepth 100000 in
set_option maxHeartbeats 1000000 in
theorem stepsOf_big (s : ByteArray) (h4 : 400 < s.size) (w : World) :
    Calls Tryz.prog 31 #[.string s] w (StepsPost w s.data.toList) := by
  have hp : prog s.data.toList = none := by rw [prog_eq, ← Lib.size_eq, if_pos h4]
  have HP := Lib.hid hp
  clear hp
  have hd4 : decide ((s.size : Int) ≤ 400) = false := decide_eq_false (by omega)
  have hmf : ∀ (fn : Fn) (first cap : Array Value) (w : World), (Instr.makeFunc fn first cap).run Tryz.prog w = .ok (.func fn first cap) w := fun _ _ _ _ => rfl
  go_enter_defers Tryz.func31, Tryz.ntmps31
  go_wp2_with (go_at_call 53; go_must (refine (need_any _ _).mono ?_; intro e w' hpost; simp only [NeedPost] at hpost; obtain ⟨rfl, rfl⟩ := hpost))
  refine leaves_cons (f := 52) (args := #[.pointer (some ⟨w.heap.size, 0, none⟩), .pointer (some ⟨w.heap.size + 1, 0, none⟩)]) (by simp) (by simp [go_sem]) ?_
  refine (catch_panicking w.heap.size (w.heap.size + 1) (.string ⟨#[]⟩) (.bool false) _ (by simp [go_sem]) (by simp [go_sem]) (by simp [go_sem]) (by simp [go_sem]) (by omega)).mono ?_
  rintro e u' w'' ⟨rfl, rfl, hb⟩
  have hsz : ((w.alloc (.cells #[.string ⟨#[]⟩] 9)).alloc (.cells #[.bool false] 4)).heap.size = w.heap.size + 2 := by simp
  rw [hsz] at hb
  have d0 : w''.cell? ⟨w.heap.size, 0, none⟩ = some (.string ⟨#[]⟩) := by rw [hb.cell (p := ⟨w.heap.size, 0, none⟩) (by show w.heap.size < _; omega)]; simp [go_sem]
  have d1 : w''.cell? ⟨w.heap.size + 1, 0, none⟩ = some (.bool false) := by rw [hb.cell (p := ⟨w.heap.size + 1, 0, none⟩) (by show w.heap.size + 1 < _; omega)]; simp [go_sem]
  have hB : Below w.heap.size w w'' := (by repeat' (first | (with_reducible exact Below.refl _ _) | (with_reducible assumption) | (with_reducible refine Below.alloc ?_ ?_ _) | (with_reducible refine below_more ?_ ?_ _ _) | (with_reducible refine below_rd ?_ ?_ _ _) | (with_reducible refine Below.drew ?_) | (with_reducible refine Below.setCell ?_ ?_ _) | go_size) : Below w.heap.size w ((((w.alloc (.cells #[.string ⟨#[]⟩] 9)).alloc (.cells #[.bool false] 4)).setCell ⟨w.heap.size, 0, none⟩ (.string ⟨#[]⟩)).setCell ⟨w.heap.size + 1, 0, none⟩ (.bool false))).trans (hb.mono (by omega))
  simp [Leaves, settle, results, Tryz.results31, go_sem, d0, d1]
  exact ⟨by rw [stepsB, HP.out]; rfl, hB⟩
end Go.Proofs.YthojdoiffkdikaaGreatDoor
