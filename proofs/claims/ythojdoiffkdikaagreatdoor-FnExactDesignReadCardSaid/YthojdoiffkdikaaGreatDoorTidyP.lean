/- Tidy designs: plain theory. Wheels of one speed are added; the rest is sorted. -/
import Derived.Test.YthojdoiffkdikaaGreatDoorWheelB
namespace Go.Proofs.YthojdoiffkdikaaGreatDoor
open Go.RowKit

/-- A wheel added where its speed stands, else behind; the sum there; the same in a list that ascends. -/
def addI : List W9 → W9 → List W9
  | [], w => [w]
  | x :: l, w => if x.s = w.s then ⟨x.s, C8.add x.r w.r⟩ :: l else x :: addI l w
def sumAt : List W9 → W9 → C8
  | [], w => w.r
  | x :: l, w => if x.s = w.s then C8.add x.r w.r else sumAt l w
def addS : List W9 → W9 → List W9
  | [], w => [w]
  | x :: l, w => if x.s < w.s then x :: addS l w else if x.s = w.s then ⟨x.s, C8.add x.r w.r⟩ :: l else w :: x :: l
def tyI : List W9 → List W9 → Option (List W9)
  | acc, [] => some acc
  | acc, w :: r => if okC (sumAt acc w) = true then tyI (addI acc w) r else none
def tyS : List W9 → List W9 → Option (List W9)
  | acc, [] => some acc
  | acc, w :: r => if okC (sumAt acc w) = true then tyS (addS acc w) r else none
/-- Speeds ascend. -/
def Srt (l : List W9) : Prop := l.Pairwise (fun a b => a.s < b.s)
def nz (x : W9) : Bool := !eqC x.r C8.zero
def keepW (l : List W9) : List W9 := l.filter nz
/-- The tidy design of wheels, if there is one. -/
def tdR (ds : List W9) : Option (List W9) := (tyS [] ds).bind fun l => if dvOk (keepW l) = true then some (keepW l) else none
def tidyR (ds : List W9) : Option (List W9) := if dvOk ds = true then tdR ds else none

theorem addI_none {l : List W9} {w : W9} (h : ∀ x ∈ l, x.s ≠ w.s) : addI l w = l ++ [w] := by
  induction l with
  | nil => rfl
  | cons x l ih =>
    rw [addI, if_neg (h x (by simp)), ih fun y hy => h y (by simp [hy])]; rfl
theorem sumAt_none {l : List W9} {w : W9} (h : ∀ x ∈ l, x.s ≠ w.s) : sumAt l w = w.r := by
  induction l with
  | nil => rfl
  | cons x l ih =>
    rw [sumAt, if_neg (h x (by simp)), ih fun y hy => h y (by simp [hy])]
theorem addS_perm : ∀ {l : List W9} {w : W9}, Srt l → (addS l w).Perm (addI l w)
  | [], _, _ => List.Perm.refl _
  | x :: l, w, h => by
    obtain ⟨h1, h2⟩ := List.pairwise_cons.1 h
    rw [addS, addI]
    by_cases e1 : x.s < w.s
    · rw [if_pos e1, if_neg (by omega)]
      exact (addS_perm h2).cons x
    · rw [if_neg e1]
      by_cases e2 : x.s = w.s
      · rw [if_pos e2, if_pos e2]
      · rw [if_neg e2, if_neg e2, addI_none fun y hy => by have := h1 y hy; omega]
        exact (List.perm_append_comm (l₁ := [w]) (l₂ := x :: l))
theorem addS_mem : ∀ {l : List W9} {w x : W9}, x ∈ addS l w → x.s = w.s ∨ ∃ y ∈ l, y.s = x.s
  | [], w, x, h => by
    rw [addS, List.mem_singleton] at h
    exact Or.inl (by rw [h])
  | y :: l, w, x, h => by
    rw [addS] at h
    split at h
    · rcases List.mem_cons.1 h with rfl | h
      · exact Or.inr ⟨x, by simp, rfl⟩
      · rcases addS_mem h with h | ⟨z, hz, e⟩
        · exact Or.inl h
        · exact Or.inr ⟨z, by simp [hz], e⟩
    · split at h
      · rcases List.mem_cons.1 h with rfl | h
        · exact Or.inr ⟨y, by simp, rfl⟩
        · exact Or.inr ⟨x, by simp [h], rfl⟩
      · rcases List.mem_cons.1 h with rfl | h
        · exact Or.inl rfl
        · exact Or.inr ⟨x, h, rfl⟩
theorem addS_srt : ∀ {l : List W9} {w : W9}, Srt l → Srt (addS l w)
  | [], _, _ => List.pairwise_singleton _ _
  | x :: l, w, h => by
    obtain ⟨h1, h2⟩ := List.pairwise_cons.1 h
    rw [addS]
    by_cases e1 : x.s < w.s
    · rw [if_pos e1]
      refine List.pairwise_cons.2 ⟨fun y hy => ?_, addS_srt h2⟩
      rcases addS_mem hy with e | ⟨z, hz, e⟩
      · omega
      · have := h1 z hz; omega
    · rw [if_neg e1]
      by_cases e2 : x.s = w.s
      · rw [if_pos e2]
        exact List.pairwise_cons.2 ⟨h1, h2⟩
      · rw [if_neg e2]
        refine List.pairwise_cons.2 ⟨fun y hy => ?_, h⟩
        rcases List.mem_cons.1 hy with rfl | hy
        · omega
        · have := h1 y hy; omega
/-- No speed stands twice. -/
def Once1 (l : List W9) : Prop := (l.map (·.s)).Nodup
theorem Srt.once {l : List W9} (h : Srt l) : Once1 l := by
  unfold Once1 Srt at *
  exact List.pairwise_map.2 (h.imp fun h => by omega)
theorem Once1.perm {l l' : List W9} (h : Once1 l) (p : l.Perm l') : Once1 l' := (p.map (fun x : W9 => x.s)).nodup_iff.1 h
theorem sumAt_perm {l l' : List W9} (p : l.Perm l') : ∀ {w : W9}, Once1 l → sumAt l w = sumAt l' w := by
  induction p with
  | nil => intro w _; rfl
  | cons x p ih =>
    intro w h
    rw [sumAt, sumAt, ih (List.nodup_cons.1 h).2]
  | swap x y l =>
    intro w h
    have hne : y.s ≠ x.s := fun e => (List.nodup_cons.1 h).1 (by simp [e])
    simp only [sumAt]
    by_cases e1 : x.s = w.s
    · rw [if_neg (fun e => hne (e.trans e1.symm)), if_pos e1, if_pos e1]
    · by_cases e2 : y.s = w.s
      · rw [if_pos e2, if_neg e1, if_pos e2]
      · rw [if_neg e2, if_neg e1, if_neg e1, if_neg e2]
  | trans p1 p2 ih1 ih2 =>
    intro w h
    rw [ih1 h, ih2 (h.perm p1)]
theorem addI_perm {l l' : List W9} (p : l.Perm l') : ∀ {w : W9}, Once1 l → (addI l w).Perm (addI l' w) := by
  induction p with
  | nil => intro w _; exact List.Perm.refl _
  | cons x p ih =>
    intro w h
    rw [addI, addI]
    split
    · exact p.cons _
    · exact (ih (List.nodup_cons.1 h).2).cons _
  | swap x y l =>
    intro w h
    have hne : y.s ≠ x.s := fun e => (List.nodup_cons.1 h).1 (by simp [e])
    simp only [addI]
    by_cases e1 : x.s = w.s
    · rw [if_neg (fun e => hne (e.trans e1.symm)), if_pos e1, if_pos e1]
      exact List.Perm.swap _ _ _
    · by_cases e2 : y.s = w.s
      · rw [if_pos e2, if_neg e1, if_pos e2]
        exact List.Perm.swap _ _ _
      · rw [if_neg e2, if_neg e1, if_neg e1, if_neg e2]
        exact List.Perm.swap _ _ _
  | trans p1 p2 ih1 ih2 =>
    intro w h
    exact (ih1 h).trans (ih2 (h.perm p1))
theorem ty_perm : ∀ (r : List W9) {l l' : List W9}, l.Perm l' → Srt l' → (tyI l r = none ∧ tyS l' r = none) ∨ ∃ a b, tyI l r = some a ∧ tyS l' r = some b ∧ a.Perm b ∧ Srt b
  | [], l, l', p, h => Or.inr ⟨l, l', rfl, rfl, p, h⟩
  | w :: r, l, l', p, h => by
    have ho : Once1 l := h.once.perm p.symm
    rw [tyI, tyS, sumAt_perm p ho]
    split
    · exact ty_perm r ((addI_perm p ho).trans (addS_perm h).symm) (addS_srt h)
    · exact Or.inl ⟨rfl, rfl⟩
theorem dvOk_perm {a b : List W9} (p : a.Perm b) : dvOk a = dvOk b := by
  unfold dvOk okAllW
  rw [p.length_eq, p.all_eq]
theorem Srt.keep {l : List W9} (h : Srt l) : Srt (keepW l) := h.sublist List.filter_sublist
/-- What the program's way ends in: nothing, or a list that only wants to be sorted. -/
theorem ty_end (ds : List W9) : (tyI [] ds = none ∧ tdR ds = none) ∨
    ∃ a b, tyI [] ds = some a ∧ (keepW a).Perm b ∧ Srt b ∧ (dvOk (keepW a) = false ∧ tdR ds = none ∨ dvOk (keepW a) = true ∧ tdR ds = some b) := by
  rcases ty_perm ds (List.Perm.refl []) List.Pairwise.nil with ⟨h1, h2⟩ | ⟨a, b, h1, h2, h3, h4⟩
  · exact Or.inl ⟨h1, by rw [tdR, h2]; rfl⟩
  · have hk : (keepW a).Perm (keepW b) := h3.filter _
    refine Or.inr ⟨a, keepW b, h1, hk, h4.keep, ?_⟩
    rcases Bool.eq_false_or_eq_true (dvOk (keepW b)) with e | e
    · exact Or.inr ⟨by rw [dvOk_perm hk, e], by rw [tdR, h2]; show (if dvOk (keepW b) = true then _ else _) = _; rw [if_pos e]⟩
    · exact Or.inl ⟨by rw [dvOk_perm hk, e], by rw [tdR, h2]; show (if dvOk (keepW b) = true then _ else _) = _; rw [if_neg (by rw [e]; decide)]⟩
theorem srt_unique {a b : List W9} (p : a.Perm b) (hb : Srt b) (ha : a.Pairwise (fun x y => ¬ y.s < x.s)) : a = b := by
  have ho : Once1 a := hb.once.perm p.symm
  have hne : a.Pairwise (fun x y => x.s ≠ y.s) := List.pairwise_map.1 ho
  have hs : Srt a := (ha.and hne).imp fun h => by omega
  exact List.Perm.eq_of_pairwise (le := fun x y : W9 => x.s < y.s) (fun (x y : W9) _ _ (h1 : x.s < y.s) (h2 : y.s < x.s) => absurd h1 (by omega)) hs hb p
end Go.Proofs.YthojdoiffkdikaaGreatDoor
