/- A replacer is made. -/
import Derived.Test.YthojdoiffkdikaaGreatDoorReplB
namespace Go.Proofs.YthojdoiffkdikaaGreatDoor
open Go.RowKit Go.PlotT

/-- A replacer that has not been built. -/
def ReplObj (g cap : Nat) : Obj := .cells #[.int .u32 0, .int .i32 0, .int .u32 0, .nilIface, .slice (some ⟨g, 0, none⟩) 4 cap] 92 (0, 0)
set_option maxRecDepth 100000 in
set_option maxHeartbeats 1000000 in
theorem newReplacer_any (g0 : Nat) (w : World) (hl : Lies w g0 pairs) :
    Calls Tryz.prog 26 #[.slice (some ⟨g0, 0, none⟩) 4 4] w fun e w' => ∃ b g cap, e = .returned (.pointer (some ⟨b, 0, none⟩)) ∧ w'.heap[b]? = some (ReplObj g cap) ∧ Lies w' g pairs ∧ w.heap.size ≤ b ∧ w.heap.size ≤ g ∧ ¬ g = b ∧ 4 ≤ cap ∧ Below w.heap.size w w' := by
  have HL := Lib.hid hl
  clear hl
  go_enter Tryz.func26, Tryz.ntmps26
  go_wp2_with (at_builtin; go_must (refine wpList_append_words rfl _ _ rfl w.heap.size [] pairs (.slice none 0 0) rfl (World.ownsRow_nil _ _ _ _) g0 4 4 rfl rfl HL.out.2 (by omega) (by simp) (Nat.le_refl _) ?_; intro g cap w1 hown hgrow hat hb; have HO := Lib.hid hown; have HB := Lib.hid hb; clear hown hgrow hat hb))
  go_returns
  have h : OwnsW w1 w.heap.size (.slice (some ⟨g, 0, none⟩) pairs.length cap) pairs := HO.out
  have hlt := h.lt
  have hsz := HB.out.size
  refine ⟨w1.heap.size, g, cap, rfl, heap_alloc_new _ _, h.lies.below ((Below.refl _ w1).alloc (Nat.le_refl _) _) hlt.2, hsz, hlt.1, by omega, h.cap, HB.out.alloc hsz _⟩
end Go.Proofs.YthojdoiffkdikaaGreatDoor
