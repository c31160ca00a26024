/- The region of SwingLost that draws its order: two channels made, two variables, two stores. -/
import Derived.Test.YtmoajpkgdimdaaaSoloA
import Derived.Conc.SmallLaws
import Derived.Conc.CompanyDraw
set_option linter.unusedSectionVars false
set_option linter.unusedVariables false
namespace Go.Proofs.Ytmoajpkgdimdaaa
open Go.Conc Go.ConcN Go.RowKit Go.Conc.Lib

section
variable {P : Program} {Post : Value → World → Prop} {d : Nat} {b : Frame} {k : List Item} {cs : List Frame} {ops : Array Oper} {Inv : Nat → Array Bool → Act → World → Prop}
theorem eAny (hk : b.kind ≠ .early)
    (hstep : ∀ n L a w i, Inv (n + 1) L a w → i ∈ Region.ready .any ops L → ∃ o v w', ops[i]? = some o ∧ Region.wanted o (yielded ops a.tmps) = true ∧ ((execOp a.eval o).run P w = .ok (.value v) w' ∨ ((execOp a.eval o).run P w = .ok .skip w' ∧ v = undef)) ∧ (∀ e ∈ (execOp a.eval o).events P w #[], NoM e) ∧ Inv n (L.setIfInBounds i true) (a.put o.dst v) w')
    (hne : ∀ n L a w, Inv (n + 1) L a w → Region.ready .any ops L ≠ [])
    (hend : ∀ L a w, Inv 0 L a w → E P Post d (G (b.at a (.inRegion ops [] :: k)) cs) w) :
    ∀ n t L a w, Inv n L a w → E P Post d (G (b.at a (.inRegion ops (Region.linearise.go .any ops n t L []) :: k)) cs) w := by
  intro n
  induction n with
  | zero => intro t L a w h; simpa [Region.linearise.go] using hend L a w h
  | succ n ih =>
    intro t L a w h
    simp only [Region.linearise.go]
    change E P Post d (G (b.at a (.inRegion ops (match (Region.ready .any ops L)[t % (Region.ready .any ops L).length]? with
      | some i => Region.linearise.go .any ops n (t / (Region.ready .any ops L).length) (L.setIfInBounds i true) [i]
      | none => [].reverse) :: k)) cs) w
    cases hi : (Region.ready .any ops L)[t % (Region.ready .any ops L).length]? with
    | none =>
      exfalso
      cases hr : Region.ready .any ops L with
      | nil => exact hne n L a w h hr
      | cons x xs =>
        rw [hr] at hi
        have hlt : t % (x :: xs).length < (x :: xs).length := Nat.mod_lt _ (by simp)
        simp at hi
        simp at hlt
        omega
    | some i =>
      simp only []
      rw [linearise_go_acc, List.reverse_singleton, List.singleton_append]
      obtain ⟨o, v, w', e1, e2, e3, e4, e5⟩ := hstep n L a w i h (List.mem_of_getElem? hi)
      rcases e3 with e3 | ⟨e3, rfl⟩
      · exact eV v e1 e2 hk e3 e4 (ih _ _ _ _ e5)
      · exact eN e1 e2 hk e3 e4 (ih _ _ _ _ e5)
end

def ch : Option Nat → Value
  | some n => .chan (some n)
  | none => undef
def pt : Option Nat → Value
  | some n => .pointer (some ⟨n, 0, none⟩)
  | none => undef
structure F3 (W w : World) (x0 x1 x2 x3 : Option Nat) (s4 s5 : Bool) : Prop where
  sz : W.heap.size ≤ w.heap.size
  old : ∀ b, b < W.heap.size → w.heap[b]? = W.heap[b]?
  out : w.os = W.os ∧ w.tape = W.tape ∧ w.output = W.output
  c0 : ∀ n, x0 = some n → W.heap.size ≤ n ∧ w.heap[n]? = some (.chan 0 #[] false 0 0 false)
  c1 : ∀ n, x1 = some n → W.heap.size ≤ n ∧ w.heap[n]? = some (.chan 0 #[] false 0 0 false)
  c2 : ∀ n, x2 = some n → W.heap.size ≤ n ∧ w.heap[n]? = some (.cells #[if s4 = true then ch x0 else .chan none] 44)
  c3 : ∀ n, x3 = some n → W.heap.size ≤ n ∧ w.heap[n]? = some (.cells #[if s5 = true then ch x1 else .chan none] 45)
  d01 : ∀ n m, x0 = some n → x1 = some m → n ≠ m
  d4 : s4 = true → x0.isSome = true ∧ x2.isSome = true
  d5 : s5 = true → x1.isSome = true ∧ x3.isSome = true
section
variable {W w : World} {x0 x1 x2 x3 : Option Nat} {s4 s5 : Bool}
theorem F3.start (W : World) (n : Nat) : F3 W { W with drawn := n } none none none none false false :=
  ⟨Nat.le_refl _, fun _ _ => rfl, ⟨rfl, rfl, rfl⟩, by simp, by simp, by simp, by simp, by simp, by simp, by simp⟩
theorem lt_get {w : World} {n : Nat} {o : Obj} (h : w.heap[n]? = some o) : n < w.heap.size := (Array.getElem?_eq_some_iff.1 h).1
theorem get_alloc {w : World} {n : Nat} {o o' : Obj} (h : w.heap[n]? = some o) : (w.alloc o').heap[n]? = some o := (Below.heap_alloc _ _ _ (lt_get h)).trans h
theorem F3.alloc0 (h : F3 W w none x1 x2 x3 s4 s5) : F3 W (w.alloc (.chan 0 #[] false 0 0 false)) (some w.heap.size) x1 x2 x3 s4 s5 := by
  have hs4 : s4 = false := by cases hb : s4 with | false => rfl | true => simpa using (h.d4 hb).1
  subst hs4
  refine ⟨by simp; exact Nat.le_succ_of_le h.sz, fun b hb => (Below.heap_alloc _ _ _ (Nat.lt_of_lt_of_le hb h.sz)).trans (h.old b hb), h.out, fun n e => ?_, fun n e => ⟨(h.c1 n e).1, get_alloc (h.c1 n e).2⟩, fun n e => ⟨(h.c2 n e).1, get_alloc (h.c2 n e).2⟩, fun n e => ⟨(h.c3 n e).1, get_alloc (h.c3 n e).2⟩, fun n m e1 e2 => ?_, by simp, h.d5⟩
  · cases e; exact ⟨h.sz, heap_alloc_new w _⟩
  · cases e1; have := lt_get (h.c1 m e2).2; omega
theorem F3.alloc1 (h : F3 W w x0 none x2 x3 s4 s5) : F3 W (w.alloc (.chan 0 #[] false 0 0 false)) x0 (some w.heap.size) x2 x3 s4 s5 := by
  have hs5 : s5 = false := by cases hb : s5 with | false => rfl | true => simpa using (h.d5 hb).1
  subst hs5
  refine ⟨by simp; exact Nat.le_succ_of_le h.sz, fun b hb => (Below.heap_alloc _ _ _ (Nat.lt_of_lt_of_le hb h.sz)).trans (h.old b hb), h.out, fun n e => ⟨(h.c0 n e).1, get_alloc (h.c0 n e).2⟩, fun n e => ?_, fun n e => ⟨(h.c2 n e).1, get_alloc (h.c2 n e).2⟩, fun n e => ⟨(h.c3 n e).1, get_alloc (h.c3 n e).2⟩, fun n m e1 e2 => ?_, h.d4, by simp⟩
  · cases e; exact ⟨h.sz, heap_alloc_new w _⟩
  · cases e2; have := lt_get (h.c0 n e1).2; omega
theorem F3.alloc2 (h : F3 W w x0 x1 none x3 s4 s5) : F3 W (w.alloc (.cells #[.chan none] 44)) x0 x1 (some w.heap.size) x3 s4 s5 := by
  have hs4 : s4 = false := by cases hb : s4 with | false => rfl | true => simpa using (h.d4 hb).2
  subst hs4
  refine ⟨by simp; exact Nat.le_succ_of_le h.sz, fun b hb => (Below.heap_alloc _ _ _ (Nat.lt_of_lt_of_le hb h.sz)).trans (h.old b hb), h.out, fun n e => ⟨(h.c0 n e).1, get_alloc (h.c0 n e).2⟩, fun n e => ⟨(h.c1 n e).1, get_alloc (h.c1 n e).2⟩, fun n e => ?_, fun n e => ⟨(h.c3 n e).1, get_alloc (h.c3 n e).2⟩, h.d01, by simp, h.d5⟩
  cases e; exact ⟨h.sz, heap_alloc_new w _⟩
theorem F3.alloc3 (h : F3 W w x0 x1 x2 none s4 s5) : F3 W (w.alloc (.cells #[.chan none] 45)) x0 x1 x2 (some w.heap.size) s4 s5 := by
  have hs5 : s5 = false := by cases hb : s5 with | false => rfl | true => simpa using (h.d5 hb).2
  subst hs5
  refine ⟨by simp; exact Nat.le_succ_of_le h.sz, fun b hb => (Below.heap_alloc _ _ _ (Nat.lt_of_lt_of_le hb h.sz)).trans (h.old b hb), h.out, fun n e => ⟨(h.c0 n e).1, get_alloc (h.c0 n e).2⟩, fun n e => ⟨(h.c1 n e).1, get_alloc (h.c1 n e).2⟩, fun n e => ⟨(h.c2 n e).1, get_alloc (h.c2 n e).2⟩, fun n e => ?_, h.d01, h.d4, by simp⟩
  cases e; exact ⟨h.sz, heap_alloc_new w _⟩
theorem set_other {w : World} {m b : Nat} {v : Value} {o : Option Obj} (hb : b ≠ m) (h : w.heap[b]? = o) : (w.setCell ⟨m, 0, none⟩ v).heap[b]? = o := by
  have : (w.setCell ⟨m, 0, none⟩ v).heap[b]? = w.heap[b]? := by
    simp only [World.setCell]
    rw [modify_get, if_neg (Ne.symm hb)]
  rw [this, h]
theorem set_self {w : World} {m : Nat} {v u : Value} {t : TypeId} (h : w.heap[m]? = some (.cells #[u] t)) : (w.setCell ⟨m, 0, none⟩ v).heap[m]? = some (.cells #[v] t) := by
  simp only [World.setCell]
  rw [modify_get, if_pos rfl, h]
  rfl
theorem F3.store4 {n m : Nat} (h : F3 W w (some n) x1 (some m) x3 s4 s5) : F3 W (w.setCell ⟨m, 0, none⟩ (.chan (some n))) (some n) x1 (some m) x3 true s5 := by
  obtain ⟨a1, a2⟩ := h.c2 m rfl
  refine ⟨by simpa [World.setCell] using h.sz, fun b hb => set_other (by omega) (h.old b hb), h.out, fun n' e => ⟨(h.c0 n' e).1, set_other ?_ (h.c0 n' e).2⟩, fun n' e => ⟨(h.c1 n' e).1, set_other ?_ (h.c1 n' e).2⟩, fun n' e => ?_, fun n' e => ⟨(h.c3 n' e).1, set_other ?_ (h.c3 n' e).2⟩, h.d01, fun _ => ⟨rfl, rfl⟩, h.d5⟩
  · rintro rfl; have := (h.c0 n' e).2; rw [a2] at this; cases this
  · rintro rfl; have := (h.c1 n' e).2; rw [a2] at this; cases this
  · cases e; exact ⟨a1, set_self a2⟩
  · rintro rfl; have := (h.c3 n' e).2; rw [a2] at this; simp at this
theorem F3.store5 {n m : Nat} (h : F3 W w x0 (some n) x2 (some m) s4 s5) : F3 W (w.setCell ⟨m, 0, none⟩ (.chan (some n))) x0 (some n) x2 (some m) s4 true := by
  obtain ⟨a1, a2⟩ := h.c3 m rfl
  refine ⟨by simpa [World.setCell] using h.sz, fun b hb => set_other (by omega) (h.old b hb), h.out, fun n' e => ⟨(h.c0 n' e).1, set_other ?_ (h.c0 n' e).2⟩, fun n' e => ⟨(h.c1 n' e).1, set_other ?_ (h.c1 n' e).2⟩, fun n' e => ⟨(h.c2 n' e).1, set_other ?_ (h.c2 n' e).2⟩, fun n' e => ?_, h.d01, h.d4, fun _ => ⟨rfl, rfl⟩⟩
  · rintro rfl; have := (h.c0 n' e).2; rw [a2] at this; cases this
  · rintro rfl; have := (h.c1 n' e).2; rw [a2] at this; cases this
  · rintro rfl; have := (h.c2 n' e).2; rw [a2] at this; simp at this
  · cases e; exact ⟨a1, set_self a2⟩
end
/-- The frame's slots then. -/
def T9 (sv : Value) (C : Nat) (v11 v12 v4 v5 : Value) : Array Value :=
  #[sv, .pointer (some ⟨C, 0, none⟩), .int .i64 0, .bool false, v4, v5, undef, undef, sv, .bool true, .bool false, v11, v12, undef, undef, undef, undef, undef, undef]
def nf (L : List Bool) : Nat := L.foldl (fun n b => if b then n else n + 1) 0
def R3 (sv : Value) (C : Nat) (W : World) (n : Nat) (L : Array Bool) (a : Act) (w : World) : Prop :=
  ∃ (x0 x1 x2 x3 : Option Nat) (s4 s5 : Bool), L = #[x0.isSome, x1.isSome, x2.isSome, x3.isSome, s4, s5] ∧ n = nf [x0.isSome, x1.isSome, x2.isSome, x3.isSome, s4, s5] ∧ a = ⟨T9 sv C (ch x0) (ch x1) (pt x2) (pt x3), []⟩ ∧ F3 W w x0 x1 x2 x3 s4 s5
/-- ████ WHATEVER THE ORDER. ████ -/
theorem r3_any {P : Program} {Post : Value → World → Prop} {d : Nat} {b : Frame} {k : List Item} {cs : List Frame} {o0 o1 o2 o3 o4 o5 : Oper} {sv : Value} {C : Nat} {W : World} (hk : b.kind ≠ .early)
    (hready : ∀ L0 L1 L2 L3 L4 L5 : Bool, ∀ i ∈ Region.ready .any #[o0, o1, o2, o3, o4, o5] #[L0, L1, L2, L3, L4, L5], (i = 0 ∧ L0 = false) ∨ (i = 1 ∧ L1 = false) ∨ (i = 2 ∧ L2 = false) ∨ (i = 3 ∧ L3 = false) ∨ (i = 4 ∧ L4 = false ∧ L0 = true ∧ L2 = true) ∨ (i = 5 ∧ L5 = false ∧ L1 = true ∧ L3 = true))
    (hne : ∀ L0 L1 L2 L3 L4 L5 : Bool, nf [L0, L1, L2, L3, L4, L5] ≠ 0 → Region.ready .any #[o0, o1, o2, o3, o4, o5] #[L0, L1, L2, L3, L4, L5] ≠ [])
    (hg : o0.guard = none ∧ o1.guard = none ∧ o2.guard = none ∧ o3.guard = none ∧ o4.guard = none ∧ o5.guard = none) (hd : o0.dst = some 11 ∧ o1.dst = some 12 ∧ o2.dst = some 4 ∧ o3.dst = some 5 ∧ o4.dst = none ∧ o5.dst = none)
    (r0 : ∀ (a : Act) w, (execOp a.eval o0).run P w = .ok (.value (.chan (some w.heap.size))) (w.alloc (.chan 0 #[] false 0 0 false))) (e0 : ∀ (a : Act) w, (execOp a.eval o0).events P w #[] = #[])
    (r1 : ∀ (a : Act) w, (execOp a.eval o1).run P w = .ok (.value (.chan (some w.heap.size))) (w.alloc (.chan 0 #[] false 0 0 false))) (e1 : ∀ (a : Act) w, (execOp a.eval o1).events P w #[] = #[])
    (r2 : ∀ (a : Act) w, (execOp a.eval o2).run P w = .ok (.value (.pointer (some ⟨w.heap.size, 0, none⟩))) (w.alloc (.cells #[.chan none] 44))) (e2 : ∀ (a : Act) w, (execOp a.eval o2).events P w #[] = #[])
    (r3 : ∀ (a : Act) w, (execOp a.eval o3).run P w = .ok (.value (.pointer (some ⟨w.heap.size, 0, none⟩))) (w.alloc (.cells #[.chan none] 45))) (e3 : ∀ (a : Act) w, (execOp a.eval o3).events P w #[] = #[])
    (r4 : ∀ v11 v12 v4 v5 w n m, v11 = .chan (some n) → v4 = .pointer (some ⟨m, 0, none⟩) → (∃ u, w.heap[m]? = some (.cells #[u] 44)) → ((execOp (Act.eval ⟨T9 sv C v11 v12 v4 v5, []⟩) o4).run P w = .ok .skip (w.setCell ⟨m, 0, none⟩ (.chan (some n)))) ∧ ∀ e ∈ (execOp (Act.eval ⟨T9 sv C v11 v12 v4 v5, []⟩) o4).events P w #[], NoM e)
    (r5 : ∀ v11 v12 v4 v5 w n m, v12 = .chan (some n) → v5 = .pointer (some ⟨m, 0, none⟩) → (∃ u, w.heap[m]? = some (.cells #[u] 45)) → ((execOp (Act.eval ⟨T9 sv C v11 v12 v4 v5, []⟩) o5).run P w = .ok .skip (w.setCell ⟨m, 0, none⟩ (.chan (some n)))) ∧ ∀ e ∈ (execOp (Act.eval ⟨T9 sv C v11 v12 v4 v5, []⟩) o5).events P w #[], NoM e)
    (hend : ∀ n0 n1 m0 m1 w, F3 W w (some n0) (some n1) (some m0) (some m1) true true → E P Post d (G (b.at ⟨T9 sv C (.chan (some n0)) (.chan (some n1)) (.pointer (some ⟨m0, 0, none⟩)) (.pointer (some ⟨m1, 0, none⟩)), []⟩ (.inRegion #[o0, o1, o2, o3, o4, o5] [] :: k)) cs) w)
    (t n : Nat) : E P Post d (G (b.at ⟨T9 sv C undef undef undef undef, []⟩ (.inRegion #[o0, o1, o2, o3, o4, o5] (Region.linearise .any #[o0, o1, o2, o3, o4, o5] t) :: k)) cs) { W with drawn := n } := by
  refine eAny (Inv := R3 sv C W) hk ?_ ?_ ?_ 6 t #[false, false, false, false, false, false] _ _ ⟨none, none, none, none, false, false, rfl, rfl, rfl, .start W n⟩
  · rintro n L a w i ⟨x0, x1, x2, x3, s4, s5, rfl, hn, rfl, hF⟩ hi
    have hw : ∀ o : Oper, o.guard = none → ∀ y, Region.wanted o y = true := fun o ho y => by simp [Region.wanted, ho]
    rcases hready _ _ _ _ _ _ i hi with ⟨rfl, h⟩ | ⟨rfl, h⟩ | ⟨rfl, h⟩ | ⟨rfl, h⟩ | ⟨rfl, h, h1, h2⟩ | ⟨rfl, h, h1, h2⟩
    · obtain rfl : x0 = none := by simpa using h
      refine ⟨o0, _, _, rfl, hw _ hg.1 _, Or.inl (r0 _ _), by rw [e0]; simp, some w.heap.size, x1, x2, x3, s4, s5, rfl, ?_, by rw [hd.1]; rfl, hF.alloc0⟩
      revert hn; cases x1 <;> cases x2 <;> cases x3 <;> cases s4 <;> cases s5 <;> simp [nf]
    · obtain rfl : x1 = none := by simpa using h
      refine ⟨o1, _, _, rfl, hw _ hg.2.1 _, Or.inl (r1 _ _), by rw [e1]; simp, x0, some w.heap.size, x2, x3, s4, s5, rfl, ?_, by rw [hd.2.1]; rfl, hF.alloc1⟩
      revert hn; cases x0 <;> cases x2 <;> cases x3 <;> cases s4 <;> cases s5 <;> simp [nf]
    · obtain rfl : x2 = none := by simpa using h
      refine ⟨o2, _, _, rfl, hw _ hg.2.2.1 _, Or.inl (r2 _ _), by rw [e2]; simp, x0, x1, some w.heap.size, x3, s4, s5, rfl, ?_, by rw [hd.2.2.1]; rfl, hF.alloc2⟩
      revert hn; cases x0 <;> cases x1 <;> cases x3 <;> cases s4 <;> cases s5 <;> simp [nf]
    · obtain rfl : x3 = none := by simpa using h
      refine ⟨o3, _, _, rfl, hw _ hg.2.2.2.1 _, Or.inl (r3 _ _), by rw [e3]; simp, x0, x1, x2, some w.heap.size, s4, s5, rfl, ?_, by rw [hd.2.2.2.1]; rfl, hF.alloc3⟩
      revert hn; cases x0 <;> cases x1 <;> cases x2 <;> cases s4 <;> cases s5 <;> simp [nf]
    · obtain ⟨n0, rfl⟩ := Option.isSome_iff_exists.1 h1
      obtain ⟨m0, rfl⟩ := Option.isSome_iff_exists.1 h2
      subst h
      obtain ⟨hv, he⟩ := r4 (ch (some n0)) (ch x1) (pt (some m0)) (pt x3) w n0 m0 rfl rfl ⟨_, (hF.c2 m0 rfl).2⟩
      refine ⟨o4, undef, _, rfl, hw _ hg.2.2.2.2.1 _, Or.inr ⟨hv, rfl⟩, he, some n0, x1, some m0, x3, true, s5, rfl, ?_, by rw [hd.2.2.2.2.1]; rfl, hF.store4⟩
      revert hn; cases x1 <;> cases x3 <;> cases s5 <;> simp [nf]
    · obtain ⟨n0, rfl⟩ := Option.isSome_iff_exists.1 h1
      obtain ⟨m0, rfl⟩ := Option.isSome_iff_exists.1 h2
      subst h
      obtain ⟨hv, he⟩ := r5 (ch x0) (ch (some n0)) (pt x2) (pt (some m0)) w n0 m0 rfl rfl ⟨_, (hF.c3 m0 rfl).2⟩
      refine ⟨o5, undef, _, rfl, hw _ hg.2.2.2.2.2 _, Or.inr ⟨hv, rfl⟩, he, x0, some n0, x2, some m0, s4, true, rfl, ?_, by rw [hd.2.2.2.2.2]; rfl, hF.store5⟩
      revert hn; cases x0 <;> cases x2 <;> cases s4 <;> simp [nf]
  · rintro n L a w ⟨x0, x1, x2, x3, s4, s5, rfl, hn, rfl, hF⟩
    exact hne _ _ _ _ _ _ (by rw [← hn]; omega)
  · rintro L a w ⟨x0, x1, x2, x3, s4, s5, rfl, hn, rfl, hF⟩
    have : x0.isSome = true ∧ x1.isSome = true ∧ x2.isSome = true ∧ x3.isSome = true ∧ s4 = true ∧ s5 = true := by
      revert hn; cases x0 <;> cases x1 <;> cases x2 <;> cases x3 <;> cases s4 <;> cases s5 <;> simp [nf]
    obtain ⟨h0, h1, h2, h3, rfl, rfl⟩ := this
    obtain ⟨n0, rfl⟩ := Option.isSome_iff_exists.1 h0
    obtain ⟨n1, rfl⟩ := Option.isSome_iff_exists.1 h1
    obtain ⟨m0, rfl⟩ := Option.isSome_iff_exists.1 h2
    obtain ⟨m1, rfl⟩ := Option.isSome_iff_exists.1 h3
    exact hend n0 n1 m0 m1 w hF
end Go.Proofs.Ytmoajpkgdimdaaa
