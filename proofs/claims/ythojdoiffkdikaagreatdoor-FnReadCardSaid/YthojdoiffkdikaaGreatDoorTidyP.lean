/- Designs that laws own; marks in designs; rows of designs. Tidy designs: plain theory. Wheels of one speed are added; the rest is sorted. -/
import Derived.Test.YthojdoiffkdikaaGreatDoorRowLaw
import Derived.Test.YthojdoiffkdikaaGreatDoorSumOf
import Derived.Test.YthojdoiffkdikaaGreatDoorRowOf
import Derived.Test.YthojdoiffkdikaaGreatDoorWheelB
section -- a part
namespace Go.Proofs.YthojdoiffkdikaaGreatDoor
open Go.RowKit

def OwnsW (w : World) (B : Nat) (v : Value) (ys : List W9) : Prop := w.ownsRow B 61 9 v ys.length (rowsW ys).toList
theorem OwnsW.keep {w w' : World} {B : Nat} {v : Value} {ys : List W9} (h : OwnsW w B v ys) (hb : Below w.heap.size w w') : OwnsW w' B v ys := by
  refine ⟨h.1, ?_⟩
  rcases h.2 with h0 | ⟨g, cap, cur, hv, hg, hh, h1, h2, h3, h4⟩
  · exact Or.inl h0
  · exact Or.inr ⟨g, cap, cur, hv, hg, (hb.block g (Array.getElem?_eq_some_iff.1 hh).1).trans hh, h1, h2, h3, h4⟩
theorem apart_own {w w' : World} {B B' n n' s s' : Nat} {T T' : TypeId} {v v' : Value} {ys zs : List Value} (h : w.ownsRow B T s v n ys) (h' : w'.ownsRow B' T' s' v' n' zs) (hB : w.heap.size ≤ B') : Apart v v' := fun k a b => by
  have h1 := World.ownsRow.lt h k a
  have h2 := World.ownsRow.lt h' k b
  omega
theorem OwnsW.apart {w w' : World} {B B' : Nat} {v v' : Value} {ys : List W9} {zs : List C8} (h : OwnsW w B v ys) (h' : OwnsP w' B' v' zs) (hB : w.heap.size ≤ B') : Apart v v' := apart_own h h' hB
theorem OwnsW.apartW {w w' : World} {B B' : Nat} {v v' : Value} {ys zs : List W9} (h : OwnsW w B v ys) (h' : OwnsW w' B' v' zs) (hB : w.heap.size ≤ B') : Apart v v' := apart_own h h' hB
theorem OwnsP.apartW {w w' : World} {B B' : Nat} {v v' : Value} {ys : List C8} {zs : List W9} (h : OwnsP w B v ys) (h' : OwnsW w' B' v' zs) (hB : w.heap.size ≤ B') : Apart v v' := apart_own h h' hB
theorem OwnsW.mark {w w' : World} {B : Nat} {v v' : Value} {ys : List W9} (h : OwnsW w B v ys) (hg : w.grownBy w' v'.ownBlock) (ha : Apart v v') : OwnsW w' B v ys := by
  refine World.ownsRow.kept h hg ?_
  cases hv : v.ownBlock with
  | none => exact Or.inl rfl
  | some k => exact Or.inr (fun e => ha k hv e.symm)
theorem below_markedW {B B' : Nat} {w w1 w2 : World} {v : Value} {ys : List W9} (h : Below B w w1) (ho : OwnsW w1 B' v ys) (hg : w1.grownBy w2 v.ownBlock) (hB : B ≤ w.heap.size) (hB' : B ≤ B') : Below B w w2 :=
  Below.grown h hg (by have := h.size; omega) (fun k hk => by have := (World.ownsRow.lt ho k hk).1; omega)
theorem OwnsW.hasW {w : World} {B : Nat} {v : Value} {ys : List W9} (h : OwnsW w B v ys) : ∃ (a : Option Addr) (cap : Nat), v = .slice a ys.length cap ∧ HasW w a ys := by
  rcases h.2 with ⟨hv, hn⟩ | ⟨g, cap, cur, hv, hb, hg, h1, h2, h3, h4⟩
  · exact ⟨none, 0, by rw [hv, hn], Or.inl (List.length_eq_zero_iff.1 hn)⟩
  · refine ⟨some ⟨g, 0, none⟩, cap, hv, Or.inr ⟨g, rfl, ?_, fun i hi j u hu => ?_⟩⟩
    · by_cases hlt : g < w.heap.size
      · exact hlt
      · rw [Array.getElem?_eq_none (by omega)] at hg; cases hg
    · have hj : j < 9 := by
        by_cases hj : j < 9
        · exact hj
        · rw [List.getElem?_eq_none (by rw [rowWL_len]; omega)] at hu; cases hu
      rw [rowWL_get _ j hj] at hu
      cases hu
      have hm : i * 9 + j < 9 * ys.length := by omega
      have e : (cur.toList.take (ys.length * 9))[i * 9 + j]? = (rowsW ys).toList[i * 9 + j]? := by rw [h4]
      rw [List.getElem?_take_of_lt (by omega), Array.getElem?_toList, Array.getElem?_toList, rowsW_get _ _ hm, show (i * 9 + j) / 9 = i by omega, show (i * 9 + j) % 9 = j by omega] at e
      rw [cell_of_row w g (i * 9 + j) cur _ _ hg]; exact e
def OwnPostW (w : World) (xs : List W9) (e : Ending) (w' : World) : Prop := ∃ v, e = .returned v ∧ OwnsW w' w.heap.size v xs ∧ Below w.heap.size w w'
theorem OwnsW.lit (w : World) (xs : List W9) (hn : xs.length ≤ 1048576) (os : Array Obj) (d : Nat) : OwnsW (Go.Proofs.YthojdoiffkdikaaGreatDoor.more (w.alloc (.cells (rowsW xs) 61)) os d) w.heap.size (.slice (some ⟨w.heap.size, 0, none⟩) xs.length xs.length) xs := by
  have h : (w.alloc (.cells (rowsW xs) 61)).ownsRow w.heap.size 61 9 (.slice (some ⟨w.heap.size, 0, none⟩) xs.length xs.length) xs.length (rowsW xs).toList :=
    World.ownsRow_lit w _ _ (Nat.le_refl _) (by unfold maxLen; omega) (by rw [rowsW_size]; omega)
  exact OwnsW.keep h (below_more (Below.refl _ _) (Nat.le_refl _) os d)

set_option maxRecDepth 100000 in
set_option maxHeartbeats 1000000 in
theorem markWheelS_none (a : Option Addr) (cap : Nat) (k : Int) (w : World) :
    Calls Tryz.prog 14 #[.slice a 0 cap, .int .i64 k] w fun e w' => e = .returned (.int .i64 k) ∧ w = w' := by
  go_enter Tryz.func14, Tryz.ntmps14
  go_wp2
  go_rounds 1
  all_goals
    go_ret
    exact ⟨rfl, rfl⟩
theorem mkb_cell {w : World} {g : Nat} {T : TypeId} {cur : Array Value} {k : Int} {m : Nat} (hg : g < w.heap.size) (hm : m < cur.size) : ∃ v, (blk w g T (mkb cur k m)).cell? ⟨g, m, none⟩ = some v := by
  rw [cell_blk _ hg, mkb_get _ _ _ _ hm]; exact ⟨_, rfl⟩
set_option maxRecDepth 100000 in
set_option maxHeartbeats 1000000 in
theorem markWheelS_some (g cap n : Nat) (cur : Array Value) (k : Int) (w : World) (hg : g < w.heap.size) (hs : 9 * n ≤ cur.size) (hn : n ≤ 1048576) (hk0 : 0 ≤ k) (hk1 : k ≤ 1000000000) :
    Calls Tryz.prog 14 #[.slice (some ⟨g, 0, none⟩) n cap, .int .i64 k] (blk w g 61 cur) fun e w' => e = .returned (.int .i64 (k + 9 * n)) ∧ w' = blk w g 61 (mkb cur k (9 * n)) := by
  go_enter Tryz.func14, Tryz.ntmps14
  go_wp2
  go_loopw [1, 5] (fun q s wr => ∃ i : Nat, i ≤ n ∧ s = .int .i64 i ∧ q = .int .i64 (k + 9 * i) ∧ wr = blk w g 61 (mkb cur k (9 * i))) (fun _ s _ => n - (intOf s).toNat)
  case atStart => exact ⟨0, by omega, rfl, by go_num, by rw [Nat.mul_zero, mkb_zero]⟩
  case round =>
    obtain ⟨i, hi, rfl, rfl, rfl⟩ := hrel
    by_cases hlt : i < n
    · obtain ⟨c1, c0⟩ := mkb_cell (w := w) (T := 61) (cur := cur) (k := k) (m := i * 9) hg (by omega)
      have st := mkb_set cur k (i * 9) (by omega)
      rw [show (k + ((i * 9 : Nat) : Int)) = k + 9 * i by omega] at st
      have ST := Lib.hid st
      clear st
      rw [show 9 * i = i * 9 by omega]
      go_wp2_with fail
      go_loopw [1, 6] (fun q s wr => ∃ j : Nat, j ≤ 8 ∧ s = .int .i64 j ∧ q = .int .i64 (k + 9 * i + 1 + j) ∧ wr = blk w g 61 (mkb cur k (i * 9 + 1 + j))) (fun _ s _ => 8 - (intOf s).toNat)
      case atStart => exact ⟨0, by omega, rfl, by go_num, by rw [ST.out]⟩
      case round =>
        obtain ⟨j, hj, rfl, rfl, rfl⟩ := hrel
        by_cases hltj : j < 8
        · obtain ⟨d1, d0⟩ := mkb_cell (w := w) (T := 61) (cur := cur) (k := k) (m := i * 9 + 1 + j) hg (by omega)
          have st := mkb_set cur k (i * 9 + 1 + j) (by omega)
          rw [show (k + ((i * 9 + 1 + j : Nat) : Int)) = k + 9 * i + 1 + j by omega] at st
          have ST2 := Lib.hid st
          clear st c0
          go_wp2
          go_roundw
          case rel => exact ⟨j + 1, by omega, by go_num, by go_num, by rw [ST2.out]; rfl⟩
          case measure => simp [intOf]; omega
        · obtain rfl : j = 8 := by omega
          go_wp2
          go_roundw
          case rel => exact ⟨i + 1, by omega, by go_num, by go_num, by congr 2; omega⟩
          case measure => simp [intOf]; omega
    · obtain rfl : i = n := by omega
      go_wp2
      go_ret
      exact ⟨rfl, rfl⟩
theorem markWheelS_any {B : Nat} {v : Value} {xs : List W9} {w : World} (h : OwnsW w B v xs) (hn : xs.length ≤ 1048576) (k : Int) (hk0 : 0 ≤ k) (hk1 : k ≤ 1000000000) :
    Calls Tryz.prog 14 #[v, .int .i64 k] w (MarkPost w v 9 xs.length k) := by
  rcases h.2 with ⟨rfl, hn0⟩ | ⟨g, cap, cur, rfl, hb, hg, h1, h2, h3, h4⟩
  · refine (markWheelS_none none 0 k w).mono fun e w' h => ?_
    obtain ⟨rfl, rfl⟩ := h
    exact ⟨by rw [hn0]; exact ret_int (by omega), ⟨rfl, rfl, rfl, Nat.le_refl _, fun _ _ _ => rfl⟩, Or.inl ⟨hn0, none, 0, rfl⟩⟩
  · have hlt : g < w.heap.size := (Array.getElem?_eq_some_iff.1 hg).1
    have e0 := blk_self hg
    have key := markWheelS_some g cap xs.length cur k w hlt (by omega) hn hk0 hk1
    rw [← e0] at key
    refine key.mono fun e w' h => ?_
    obtain ⟨rfl, rfl⟩ := h
    refine ⟨ret_int (by omega), grown_blk, Or.inr ⟨g, cap, rfl, by rw [size_blk]; exact hlt, fun x hx => ?_⟩⟩
    rw [cell_blk x hlt, mkb_get _ _ _ _ (by omega), if_pos (by omega)]
end Go.Proofs.YthojdoiffkdikaaGreatDoor
end
section -- a part
namespace Go.Proofs.YthojdoiffkdikaaGreatDoor
open Go.RowKit

/-- A wheel added where its speed stands, else behind; the sum there; the same in a list that ascends. -/
def addI : List W9 → W9 → List W9
  | [], w => [w]
  | x :: l, w => if x.s = w.s then ⟨x.s, C8.add x.r w.r⟩ :: l else x :: addI l w
def sumAt : List W9 → W9 → C8
  | [], w => w.r
  | x :: l, w => if x.s = w.s then C8.add x.r w.r else sumAt l w
def addS : List W9 → W9 → List W9
  | [], w => [w]
  | x :: l, w => if x.s < w.s then x :: addS l w else if x.s = w.s then ⟨x.s, C8.add x.r w.r⟩ :: l else w :: x :: l
def tyI : List W9 → List W9 → Option (List W9)
  | acc, [] => some acc
  | acc, w :: r => if okC (sumAt acc w) = true then tyI (addI acc w) r else none
def tyS : List W9 → List W9 → Option (List W9)
  | acc, [] => some acc
  | acc, w :: r => if okC (sumAt acc w) = true then tyS (addS acc w) r else none
/-- Speeds ascend. -/
def Srt (l : List W9) : Prop := l.Pairwise (fun a b => a.s < b.s)
def nz (x : W9) : Bool := !eqC x.r C8.zero
def keepW (l : List W9) : List W9 := l.filter nz
/-- The tidy design of wheels, if there is one. -/
def tdR (ds : List W9) : Option (List W9) := (tyS [] ds).bind fun l => if dvOk (keepW l) = true then some (keepW l) else none
def tidyR (ds : List W9) : Option (List W9) := if dvOk ds = true then tdR ds else none

theorem addI_none {l : List W9} {w : W9} (h : ∀ x ∈ l, x.s ≠ w.s) : addI l w = l ++ [w] := by
  induction l with
  | nil => rfl
  | cons x l ih =>
    rw [addI, if_neg (h x (by simp)), ih fun y hy => h y (by simp [hy])]; rfl
theorem sumAt_none {l : List W9} {w : W9} (h : ∀ x ∈ l, x.s ≠ w.s) : sumAt l w = w.r := by
  induction l with
  | nil => rfl
  | cons x l ih =>
    rw [sumAt, if_neg (h x (by simp)), ih fun y hy => h y (by simp [hy])]
theorem addS_perm : ∀ {l : List W9} {w : W9}, Srt l → (addS l w).Perm (addI l w)
  | [], _, _ => List.Perm.refl _
  | x :: l, w, h => by
    obtain ⟨h1, h2⟩ := List.pairwise_cons.1 h
    rw [addS, addI]
    by_cases e1 : x.s < w.s
    · rw [if_pos e1, if_neg (by omega)]
      exact (addS_perm h2).cons x
    · rw [if_neg e1]
      by_cases e2 : x.s = w.s
      · rw [if_pos e2, if_pos e2]
      · rw [if_neg e2, if_neg e2, addI_none fun y hy => by have := h1 y hy; omega]
        exact (List.perm_append_comm (l₁ := [w]) (l₂ := x :: l))
theorem addS_mem : ∀ {l : List W9} {w x : W9}, x ∈ addS l w → x.s = w.s ∨ ∃ y ∈ l, y.s = x.s
  | [], w, x, h => by
    rw [addS, List.mem_singleton] at h
    exact Or.inl (by rw [h])
  | y :: l, w, x, h => by
    rw [addS] at h
    split at h
    · rcases List.mem_cons.1 h with rfl | h
      · exact Or.inr ⟨x, by simp, rfl⟩
      · rcases addS_mem h with h | ⟨z, hz, e⟩
        · exact Or.inl h
        · exact Or.inr ⟨z, by simp [hz], e⟩
    · split at h
      · rcases List.mem_cons.1 h with rfl | h
        · exact Or.inr ⟨y, by simp, rfl⟩
        · exact Or.inr ⟨x, by simp [h], rfl⟩
      · rcases List.mem_cons.1 h with rfl | h
        · exact Or.inl rfl
        · exact Or.inr ⟨x, h, rfl⟩
theorem addS_srt : ∀ {l : List W9} {w : W9}, Srt l → Srt (addS l w)
  | [], _, _ => List.pairwise_singleton _ _
  | x :: l, w, h => by
    obtain ⟨h1, h2⟩ := List.pairwise_cons.1 h
    rw [addS]
    by_cases e1 : x.s < w.s
    · rw [if_pos e1]
      refine List.pairwise_cons.2 ⟨fun y hy => ?_, addS_srt h2⟩
      rcases addS_mem hy with e | ⟨z, hz, e⟩
      · omega
      · have := h1 z hz; omega
    · rw [if_neg e1]
      by_cases e2 : x.s = w.s
      · rw [if_pos e2]
        exact List.pairwise_cons.2 ⟨h1, h2⟩
      · rw [if_neg e2]
        refine List.pairwise_cons.2 ⟨fun y hy => ?_, h⟩
        rcases List.mem_cons.1 hy with rfl | hy
        · omega
        · have := h1 y hy; omega
/-- No speed stands twice. -/
def Once1 (l : List W9) : Prop := (l.map (·.s)).Nodup
theorem Srt.once {l : List W9} (h : Srt l) : Once1 l := by
  unfold Once1 Srt at *
  exact List.pairwise_map.2 (h.imp fun h => by omega)
theorem Once1.perm {l l' : List W9} (h : Once1 l) (p : l.Perm l') : Once1 l' := (p.map (fun x : W9 => x.s)).nodup_iff.1 h
theorem sumAt_perm {l l' : List W9} (p : l.Perm l') : ∀ {w : W9}, Once1 l → sumAt l w = sumAt l' w := by
  induction p with
  | nil => intro w _; rfl
  | cons x p ih =>
    intro w h
    rw [sumAt, sumAt, ih (List.nodup_cons.1 h).2]
  | swap x y l =>
    intro w h
    have hne : y.s ≠ x.s := fun e => (List.nodup_cons.1 h).1 (by simp [e])
    simp only [sumAt]
    by_cases e1 : x.s = w.s
    · rw [if_neg (fun e => hne (e.trans e1.symm)), if_pos e1, if_pos e1]
    · by_cases e2 : y.s = w.s
      · rw [if_pos e2, if_neg e1, if_pos e2]
      · rw [if_neg e2, if_neg e1, if_neg e1, if_neg e2]
  | trans p1 p2 ih1 ih2 =>
    intro w h
    rw [ih1 h, ih2 (h.perm p1)]
theorem addI_perm {l l' : List W9} (p : l.Perm l') : ∀ {w : W9}, Once1 l → (addI l w).Perm (addI l' w) := by
  induction p with
  | nil => intro w _; exact List.Perm.refl _
  | cons x p ih =>
    intro w h
    rw [addI, addI]
    split
    · exact p.cons _
    · exact (ih (List.nodup_cons.1 h).2).cons _
  | swap x y l =>
    intro w h
    have hne : y.s ≠ x.s := fun e => (List.nodup_cons.1 h).1 (by simp [e])
    simp only [addI]
    by_cases e1 : x.s = w.s
    · rw [if_neg (fun e => hne (e.trans e1.symm)), if_pos e1, if_pos e1]
      exact List.Perm.swap _ _ _
    · by_cases e2 : y.s = w.s
      · rw [if_pos e2, if_neg e1, if_pos e2]
        exact List.Perm.swap _ _ _
      · rw [if_neg e2, if_neg e1, if_neg e1, if_neg e2]
        exact List.Perm.swap _ _ _
  | trans p1 p2 ih1 ih2 =>
    intro w h
    exact (ih1 h).trans (ih2 (h.perm p1))
theorem ty_perm : ∀ (r : List W9) {l l' : List W9}, l.Perm l' → Srt l' → (tyI l r = none ∧ tyS l' r = none) ∨ ∃ a b, tyI l r = some a ∧ tyS l' r = some b ∧ a.Perm b ∧ Srt b
  | [], l, l', p, h => Or.inr ⟨l, l', rfl, rfl, p, h⟩
  | w :: r, l, l', p, h => by
    have ho : Once1 l := h.once.perm p.symm
    rw [tyI, tyS, sumAt_perm p ho]
    split
    · exact ty_perm r ((addI_perm p ho).trans (addS_perm h).symm) (addS_srt h)
    · exact Or.inl ⟨rfl, rfl⟩
theorem dvOk_perm {a b : List W9} (p : a.Perm b) : dvOk a = dvOk b := by
  unfold dvOk okAllW
  rw [p.length_eq, p.all_eq]
theorem Srt.keep {l : List W9} (h : Srt l) : Srt (keepW l) := h.sublist List.filter_sublist
/-- What the program's way ends in: nothing, or a list that only wants to be sorted. -/
theorem ty_end (ds : List W9) : (tyI [] ds = none ∧ tdR ds = none) ∨
    ∃ a b, tyI [] ds = some a ∧ (keepW a).Perm b ∧ Srt b ∧ (dvOk (keepW a) = false ∧ tdR ds = none ∨ dvOk (keepW a) = true ∧ tdR ds = some b) := by
  rcases ty_perm ds (List.Perm.refl []) List.Pairwise.nil with ⟨h1, h2⟩ | ⟨a, b, h1, h2, h3, h4⟩
  · exact Or.inl ⟨h1, by rw [tdR, h2]; rfl⟩
  · have hk : (keepW a).Perm (keepW b) := h3.filter _
    refine Or.inr ⟨a, keepW b, h1, hk, h4.keep, ?_⟩
    rcases Bool.eq_false_or_eq_true (dvOk (keepW b)) with e | e
    · exact Or.inr ⟨by rw [dvOk_perm hk, e], by rw [tdR, h2]; show (if dvOk (keepW b) = true then _ else _) = _; rw [if_pos e]⟩
    · exact Or.inl ⟨by rw [dvOk_perm hk, e], by rw [tdR, h2]; show (if dvOk (keepW b) = true then _ else _) = _; rw [if_neg (by rw [e]; decide)]⟩
theorem srt_unique {a b : List W9} (p : a.Perm b) (hb : Srt b) (ha : a.Pairwise (fun x y => ¬ y.s < x.s)) : a = b := by
  have ho : Once1 a := hb.once.perm p.symm
  have hne : a.Pairwise (fun x y => x.s ≠ y.s) := List.pairwise_map.1 ho
  have hs : Srt a := (ha.and hne).imp fun h => by omega
  exact List.Perm.eq_of_pairwise (le := fun x y : W9 => x.s < y.s) (fun (x y : W9) _ _ (h1 : x.s < y.s) (h2 : y.s < x.s) => absurd h1 (by omega)) hs hb p
end Go.Proofs.YthojdoiffkdikaaGreatDoor
end
