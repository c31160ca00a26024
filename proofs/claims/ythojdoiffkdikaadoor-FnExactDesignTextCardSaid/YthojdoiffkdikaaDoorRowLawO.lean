/- Designs that laws own; marks in designs; rows of designs. -/
import Derived.Test.YthojdoiffkdikaaDoorRowLaw
import Derived.Test.YthojdoiffkdikaaDoorWheelD
import Derived.Test.YthojdoiffkdikaaDoorRowOf
namespace Go.Proofs.YthojdoiffkdikaaDoor
open Go.RowKit

def OwnsW (w : World) (B : Nat) (v : Value) (ys : List W9) : Prop := w.ownsRow B 57 9 v ys.length (rowsW ys).toList
theorem OwnsW.keep {w w' : World} {B : Nat} {v : Value} {ys : List W9} (h : OwnsW w B v ys) (hb : Below w.heap.size w w') : OwnsW w' B v ys := by
  refine ⟨h.1, ?_⟩
  rcases h.2 with h0 | ⟨g, cap, cur, hv, hg, hh, h1, h2, h3, h4⟩
  · exact Or.inl h0
  · exact Or.inr ⟨g, cap, cur, hv, hg, (hb.block g (Array.getElem?_eq_some_iff.1 hh).1).trans hh, h1, h2, h3, h4⟩
theorem apart_own {w w' : World} {B B' n n' s s' : Nat} {T T' : TypeId} {v v' : Value} {ys zs : List Value} (h : w.ownsRow B T s v n ys) (h' : w'.ownsRow B' T' s' v' n' zs) (hB : w.heap.size ≤ B') : Apart v v' := fun k a b => by
  have h1 := World.ownsRow.lt h k a
  have h2 := World.ownsRow.lt h' k b
  omega
theorem OwnsW.apart {w w' : World} {B B' : Nat} {v v' : Value} {ys : List W9} {zs : List C8} (h : OwnsW w B v ys) (h' : OwnsP w' B' v' zs) (hB : w.heap.size ≤ B') : Apart v v' := apart_own h h' hB
theorem OwnsW.apartW {w w' : World} {B B' : Nat} {v v' : Value} {ys zs : List W9} (h : OwnsW w B v ys) (h' : OwnsW w' B' v' zs) (hB : w.heap.size ≤ B') : Apart v v' := apart_own h h' hB
theorem OwnsP.apartW {w w' : World} {B B' : Nat} {v v' : Value} {ys : List C8} {zs : List W9} (h : OwnsP w B v ys) (h' : OwnsW w' B' v' zs) (hB : w.heap.size ≤ B') : Apart v v' := apart_own h h' hB
theorem OwnsW.mark {w w' : World} {B : Nat} {v v' : Value} {ys : List W9} (h : OwnsW w B v ys) (hg : w.grownBy w' v'.ownBlock) (ha : Apart v v') : OwnsW w' B v ys := by
  refine World.ownsRow.kept h hg ?_
  cases hv : v.ownBlock with
  | none => exact Or.inl rfl
  | some k => exact Or.inr (fun e => ha k hv e.symm)
theorem below_markedW {B B' : Nat} {w w1 w2 : World} {v : Value} {ys : List W9} (h : Below B w w1) (ho : OwnsW w1 B' v ys) (hg : w1.grownBy w2 v.ownBlock) (hB : B ≤ w.heap.size) (hB' : B ≤ B') : Below B w w2 :=
  Below.grown h hg (by have := h.size; omega) (fun k hk => by have := (World.ownsRow.lt ho k hk).1; omega)
theorem OwnsW.hasW {w : World} {B : Nat} {v : Value} {ys : List W9} (h : OwnsW w B v ys) : ∃ (a : Option Addr) (cap : Nat), v = .slice a ys.length cap ∧ HasW w a ys := by
  rcases h.2 with ⟨hv, hn⟩ | ⟨g, cap, cur, hv, hb, hg, h1, h2, h3, h4⟩
  · exact ⟨none, 0, by rw [hv, hn], Or.inl (List.length_eq_zero_iff.1 hn)⟩
  · refine ⟨some ⟨g, 0, none⟩, cap, hv, Or.inr ⟨g, rfl, ?_, fun i hi j u hu => ?_⟩⟩
    · by_cases hlt : g < w.heap.size
      · exact hlt
      · rw [Array.getElem?_eq_none (by omega)] at hg; cases hg
    · have hj : j < 9 := by
        by_cases hj : j < 9
        · exact hj
        · rw [List.getElem?_eq_none (by rw [rowWL_len]; omega)] at hu; cases hu
      rw [rowWL_get _ j hj] at hu
      cases hu
      have hm : i * 9 + j < 9 * ys.length := by omega
      have e : (cur.toList.take (ys.length * 9))[i * 9 + j]? = (rowsW ys).toList[i * 9 + j]? := by rw [h4]
      rw [List.getElem?_take_of_lt (by omega), Array.getElem?_toList, Array.getElem?_toList, rowsW_get _ _ hm, show (i * 9 + j) / 9 = i by omega, show (i * 9 + j) % 9 = j by omega] at e
      rw [cell_of_row w g (i * 9 + j) cur _ _ hg]; exact e
def OwnPostW (w : World) (xs : List W9) (e : Ending) (w' : World) : Prop := ∃ v, e = .returned v ∧ OwnsW w' w.heap.size v xs ∧ Below w.heap.size w w'
theorem OwnsW.lit (w : World) (xs : List W9) (hn : xs.length ≤ 1048576) (os : Array Obj) (d : Nat) : OwnsW (Go.Proofs.YthojdoiffkdikaaDoor.more (w.alloc (.cells (rowsW xs) 57)) os d) w.heap.size (.slice (some ⟨w.heap.size, 0, none⟩) xs.length xs.length) xs := by
  have h : (w.alloc (.cells (rowsW xs) 57)).ownsRow w.heap.size 57 9 (.slice (some ⟨w.heap.size, 0, none⟩) xs.length xs.length) xs.length (rowsW xs).toList :=
    World.ownsRow_lit w _ _ (Nat.le_refl _) (by unfold maxLen; omega) (by rw [rowsW_size]; omega)
  exact OwnsW.keep h (below_more (Below.refl _ _) (Nat.le_refl _) os d)
theorem toWheelS_own (a : Option Addr) (cap : Nat) (xs : List W9) (w W0 : World) (hx : HasWC W0 W0.heap.size a xs) (hb : Below W0.heap.size W0 w) (hn : xs.length ≤ 1048576) (hc : xs.length ≤ cap) :
    Calls Tryd.prog 15 #[.slice a xs.length cap] w (OwnPostW w xs) :=
  (toWheelS_any a cap xs w W0 W0.heap.size hx hb hb.size hn hc).mono fun e w' h => by
    obtain ⟨rfl, os, d, rfl⟩ := h
    exact ⟨_, rfl, OwnsW.lit w xs hn os d, below_more ((Below.refl _ _).alloc (Nat.le_refl _) _) (by simp) _ _⟩
theorem eqWheelS_own {B B' : Nat} {v v' : Value} {xs : List W9} {w : World} (h : OwnsW w B v xs) (h' : OwnsW w B' v' xs) (hn : xs.length ≤ 1048576) :
    Calls Tryd.prog 17 #[v, v'] w fun e w' => e = .returned (.bool true) ∧ Below w.heap.size w w' := by
  obtain ⟨a, cap, rfl, hp⟩ := h.hasW
  obtain ⟨a', cap', rfl, hp'⟩ := h'.hasW
  exact eqWheelS_same _ _ _ _ xs w hp hp' hn

end Go.Proofs.YthojdoiffkdikaaDoor
