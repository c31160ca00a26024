/- Designs as texts: the program's DesignText. A range over an iterator that writes a variable of its own which lay ahead of the loop (strings.SplitSeq's rest): a contract for such iterators, and a law for the loop whose body goes on or returns. -/
import Derived.Test.YthojdoiffkdikaaGreatDoorDesK
import Derived.Test.YthojdoiffkdikaaGreatDoorFix
section -- a part
namespace Go.Proofs.YthojdoiffkdikaaGreatDoor
open Go.RowKit

set_option maxRecDepth 100000 in
set_option maxHeartbeats 4000000 in
theorem designText_any (a : Option Addr) (cap : Nat) (ds : List W9) (w : World) (h : HasW w a ds) (hn : ds.length ≤ 1048576) (ht : Tab10 w) :
    Calls Tryz.prog 17 #[.slice a ds.length cap] w (TextPost w (textR ds)) := by
  have H := Lib.hid (designTidy_any a cap ds w h hn)
  have HTB := Lib.hid ht
  clear h ht
  cases ht : tidyR ds with
  | none =>
    rw [ht] at H
    have HR := Lib.hid (show textR ds = none by rw [textR, ht]; rfl)
    clear ht
    go_enter Tryz.func17, Tryz.ntmps17
    go_wp2_with (go_at_call 19; go_must (refine H.out.mono ?_; rintro e w1 ⟨v, rfl, ho, hb⟩; have HB := Lib.hid hb; clear ho hb))
    go_returns
    exact ⟨by rw [HR.out]; rfl, HB.out⟩
  | some t =>
    rw [ht] at H
    have HR := Lib.hid (show textR ds = some (dt t) by rw [textR, ht]; rfl)
    have HT := Lib.hid (dvOk_mem (tidyR_ok ht))
    clear ht
    go_enter Tryz.func17, Tryz.ntmps17
    go_wp2_with (first
      | (go_at_call 19; go_must (refine H.out.mono ?_; rintro e w1 ⟨v, rfl, ho, hb⟩; obtain ⟨a1, c1, rfl, -, hw1⟩ := OwnsL.hasW ho; have HW := Lib.hid hw1; have HB := Lib.hid hb; clear ho hb hw1))
      | (go_at_call 37; refine (textOf_any a1 c1 t _ HW.out (HTB.out.below HB.out) HT.out.1 HT.out.2).mono ?_; rintro e w' ⟨rfl, hb⟩; obtain ⟨os, d, rfl⟩ := more_of_below hb; clear hb))
    go_returns
    exact ⟨by rw [HR.out]; rfl, below_more HB.out HB.out.size _ _⟩
end Go.Proofs.YthojdoiffkdikaaGreatDoor
end
section -- a part
namespace Go.Proofs.YthojdoiffkdikaaGreatDoor
open Go.RowKit Go.Shelf

/-- What a predicate bears that must stand while such an iterator goes on: new blocks, and the turn of the iterator's own box or of a block of the loop's. -/
def Bears {β : Type} (bx B : Nat) (I : β → World → Prop) : Prop :=
  ∀ s X Y row, I s X → X.grownBy Y row → (∀ r, row = some r → r = bx ∨ (B ≤ r ∧ ∃ o : Obj, X.heap[r]? = some o ∧ o.isCells = false)) → I s Y
/-- The iterator's contract. -/
def SeqBox {α : Type} (F : Fence) (n : Nat) (P : Program) (g : Nat) (lb : Array Value) (encs : α → Array Value) (bx : Nat) (Kp : World → World → Prop) (S : List α → Prop) (N : Nat) (w : World) : Prop :=
  ∀ (l : Nat) (J Jx : List α → World → Prop) (W : World), Below w.heap.size w W → (∀ pre X Y row, J pre X → X.grownBy Y row → (∀ r, row = some r → r = bx) → J pre Y) →
    (∀ pre x V, J pre V → pre.length < N → YieldAt F (n - 1) P l (encs x) V fun e V' => (e = .returned (.bool true) ∧ J (pre ++ [x]) V' ∧ Kp V V') ∨ (e = .returned (.bool false) ∧ Jx (pre ++ [x]) V')) →
    J [] W → CallsIn F n P g (#[.func (.yield l) #[] #[]] ++ lb) W fun e V => (∃ v, e = .returned v) ∧ ((∃ xs, S xs ∧ J xs V) ∨ ∃ pre, Jx pre V)
/-- Where a round ends. -/
def rndPost {α : Type} (B : Nat) (Kp : World → World → Prop) (I Ix : List α → World → Prop) (xs : List α) (W : World) : Exit → Act → World → Prop
  | .normal, _, V => KeepsFrom B W V ∧ Kp W V ∧ I xs V
  | .ret, _, V => KeepsFrom B W V ∧ Ix xs V
  | _, _, _ => False
theorem Bears.put {β : Type} {bx B : Nat} {I : β → World → Prop} (h : Bears bx B I) {s : β} {W : World} {l : Nat} {o : Obj} (hs : I s W) (hl : W.heap[l]? = some o) (hB : B ≤ l) (ho : o.isCells = false) (o' : Obj) : I s (W.putObj l o') :=
  h s W _ (some l) hs (grownBy_putObj' W l o') fun r e => by cases e; exact Or.inr ⟨hB, o, hl, ho⟩
theorem Bears.new {β : Type} {bx B : Nat} {I : β → World → Prop} (h : Bears bx B I) {s : β} {W : World} (hs : I s W) (o : Obj) : I s (W.alloc o) :=
  h s W _ none hs (World.grownBy_alloc W o none) fun r e => by cases e
theorem grown_same {X Y : World} {row : Option Nat} {bx k : Nat} {o : Obj} (hg : X.grownBy Y row) (hr : ∀ r, row = some r → r = bx) (hk : k ≠ bx) (h : X.heap[k]? = some o) : Y.heap[k]? = some o :=
  (hg.block k (Array.getElem?_eq_some_iff.1 h).1 fun e => hk (hr k e.symm)).trans h
set_option maxHeartbeats 1000000 in
theorem wpIn_rangeBox {α : Type} {F : Fence} {n : Nat} {P : Program} {g : Operand} {ps : Array Tmp} {assign body : Code} {Q : Exit → Act → World → Prop} {a : Act} {w : World}
    (hro : F.round = none) (h1 : 1 ≤ n) {gf : Nat} {lb : Array Value} (hg : a.eval g = .func (.func gf) #[] lb) (hFg : F.fn gf) (eg : ∀ args w, (callFunc gf args).run P w = .ok (.enter gf args) w)
    {encs : α → Array Value} {bx : Nat} {Kp : World → World → Prop} {S : List α → Prop} {N : Nat} (hbx : bx < w.heap.size) (hseq : SeqBox F (n - 1) P gf lb encs bx Kp S N w)
    (hKt : ∀ {A B C : World}, Kp A B → Kp B C → Kp A C) (hKb : ∀ (W : World) (l : Nat) (o o' : Obj), w.heap.size ≤ l → W.heap[l]? = some o → o.isCells = false → Kp W (W.putObj l o')) (hps : ∀ x, (encs x).size = ps.size)
    (I Ix : List α → World → Prop) (hI : Bears bx w.heap.size I) (hIx : Bears bx w.heap.size Ix) (h0 : I [] w) (a₁ : α → Act)
    (hassign : ∀ (l : Nat) (x : α) (W : World) (K : Act → World → Prop), K (a₁ x) W → assign.wpIn (F.inRound l) (n - 1 - 1) P (Exit.then K (fun _ _ _ => False)) { tmps := (ps.zip (encs x)).foldl (fun t (p, v) => t.setIfInBounds p v) a.tmps, defers := [] } W)
    (hbody : ∀ (l : Nat) (pre : List α) (x : α) (W : World), I pre W → pre.length < N → body.wpIn (F.inRound l) (n - 1 - 1) P (rndPost w.heap.size Kp I Ix (pre ++ [x]) W) (a₁ x) W)
    (hdone : ∀ (D : Nat) (xs : List α) (W : World), w.heap.size ≤ D → S xs → I xs W → W.heap[D]? = some (.deferred (some [])) → Q .normal { a with defers := { target := .collected D, args := #[] } :: a.defers } W)
    (hstop : ∀ (D : Nat) (pre : List α) (W : World), w.heap.size ≤ D → Ix pre W → W.heap[D]? = some (.deferred (some [])) → Code.ret.wpIn F n P Q { a with defers := { target := .collected D, args := #[] } :: a.defers } W) :
    (Code.rangeFunc g ps assign body).wpIn F n P Q a w := by
  refine wpIn_rangeFunc fun fn hfn => ?_
  rw [hro]
  let rc (st : LoopState) (pe : Option Code) : Loop := { state := st, pending := pe, fn, tmps := a.tmps, params := ps, assign, body, defers := w.heap.size }
  have hsz : ((w.alloc (.deferred (some []))).alloc (.loop (rc .ready none))).heap.size = w.heap.size + 2 := by simp
  have hdf0 : ((w.alloc (.deferred (some []))).alloc (.loop (rc .ready none))).heap[w.heap.size]? = some (.deferred (some [])) := (Below.heap_alloc _ _ _ (by simp)).trans (World.alloc_heap_new w _)
  have hlp0 : ((w.alloc (.deferred (some []))).alloc (.loop (rc .ready none))).heap[w.heap.size + 1]? = some (.loop (rc .ready none)) := by
    have h := World.alloc_heap_new (w.alloc (.deferred (some []))) (.loop (rc .ready none))
    rwa [World.size_alloc] at h
  have hi0 : I [] ((w.alloc (.deferred (some []))).alloc (.loop (rc .ready none))) := hI.new (hI.new h0 _) _
  have hb0 : Below w.heap.size w ((w.alloc (.deferred (some []))).alloc (.loop (rc .ready none))) := ((Below.refl _ w).alloc (Nat.le_refl _) _).alloc (by simp) _
  refine ⟨w.heap.size + 1, [{ target := .collected w.heap.size, args := #[] }], (w.alloc (.deferred (some []))).alloc (.loop (rc .ready none)), { target := .fn (.func gf) lb, args := #[.func (.yield (w.heap.size + 1)) #[] #[]] }, (w.alloc (.deferred (some []))).alloc (.loop (rc .ready none)), gf,
    #[.func (.yield (w.heap.size + 1)) #[] #[]] ++ lb, (w.alloc (.deferred (some []))).alloc (.loop (rc .ready none)), run_enterLoop_outer _ _ _ _ _, by simp only [resolve, hg]; simp [go_sem], fun f' h => by simp [Target.leads] at h; subst h; exact hFg, by simp [invoke, go_sem, eg], fun _ => h1, ?_⟩
  refine (hseq (w.heap.size + 1) (fun pre W => I pre W ∧ W.heap[w.heap.size + 1]? = some (.loop (rc .ready none)) ∧ W.heap[w.heap.size]? = some (.deferred (some [])))
    (fun pre W => Ix pre W ∧ W.heap[w.heap.size + 1]? = some (.loop (rc .done (some .ret))) ∧ W.heap[w.heap.size]? = some (.deferred (some []))) _ hb0 ?_ ?_ ⟨hi0, hlp0, hdf0⟩).mono ?_
  · rintro pre X Y row ⟨k1, k2, k3⟩ hgr hr
    exact ⟨hI pre X Y row k1 hgr fun r e => Or.inl (hr r e), grown_same hgr hr (by omega) k2, grown_same hgr hr (by omega) k3⟩
  · rintro pre x V ⟨k1, k2, k3⟩ hlen
    refine ⟨fn, _, assign, body, run_yield (P := P) (args := encs x) k2 (hps x), roundIn_of_wpIn hfn (hassign _ x V _ ?_)⟩
    have hlt : w.heap.size + 1 < V.heap.size := (Array.getElem?_eq_some_iff.1 k2).1
    refine ⟨_, run_beginRound k2 rfl, ?_⟩
    have m2 : (V.putObj (w.heap.size + 1) (.loop { rc .ready none with state := .busy })).heap[w.heap.size + 1]? = some (.loop { rc .ready none with state := .busy }) := World.putObj_heap_same hlt
    have m3 : (V.putObj (w.heap.size + 1) (.loop { rc .ready none with state := .busy })).heap[w.heap.size]? = some (.deferred (some [])) := (World.putObj_heap_other (by omega)).trans k3
    refine wpIn_mono (hbody _ pre x _ (hI.put k1 k2 (by omega) rfl _) hlen) ?_
    rintro e a3 V3 hp
    have back : ∀ (jump : Option Code), KeepsFrom w.heap.size (V.putObj (w.heap.size + 1) (.loop { rc .ready none with state := .busy })) V3 →
        V3.heap[w.heap.size + 1]? = some (.loop { rc .ready none with state := .busy }) ∧ (Instr.endRound (w.heap.size + 1) jump).run P V3 = .ok (.bool jump.isNone) (V3.putObj (w.heap.size + 1) (.loop (rc (if jump.isNone then .ready else .done) jump))) ∧
        (V3.putObj (w.heap.size + 1) (.loop (rc (if jump.isNone then .ready else .done) jump))).heap[w.heap.size + 1]? = some (.loop (rc (if jump.isNone then .ready else .done) jump)) ∧
        (V3.putObj (w.heap.size + 1) (.loop (rc (if jump.isNone then .ready else .done) jump))).heap[w.heap.size]? = some (.deferred (some [])) := fun jump kf => by
      have q2 := kf.same _ _ (by omega) m2 rfl
      exact ⟨q2, run_endRound (P := P) jump q2, World.putObj_heap_same (Array.getElem?_eq_some_iff.1 q2).1, (World.putObj_heap_other (by omega)).trans (kf.same _ _ (Nat.le_refl _) m3 rfl)⟩
    match e, hp with
    | .normal, ⟨kf, kp, hi⟩ =>
      obtain ⟨q1, q2, q3, q4⟩ := back none kf
      exact ⟨_, _, q2, .inl ⟨rfl, ⟨hI.put hi q1 (by omega) rfl _, q3, q4⟩, hKt (hKb _ _ _ _ (by omega) k2 rfl) (hKt kp (hKb _ _ _ _ (by omega) q1 rfl))⟩⟩
    | .ret, ⟨kf, hi⟩ =>
      obtain ⟨q1, q2, q3, q4⟩ := back (some .ret) kf
      exact ⟨_, _, q2, .inr ⟨rfl, hIx.put hi q1 (by omega) rfl _, q3, q4⟩⟩
  · rintro e V ⟨⟨v, rfl⟩, ⟨xs, hS, k1, k2, k3⟩ | ⟨pre, k1, k2, k3⟩⟩
    · exact ⟨none, _, run_endLoop (P := P) k2 (by simp [rc]), hdone _ xs _ (Nat.le_refl _) hS (hI.put k1 k2 (by omega) rfl _) ((World.putObj_heap_other (by omega)).trans k3)⟩
    · exact ⟨some .ret, _, run_endLoop (P := P) k2 (by simp [rc]), hstop _ pre _ (Nat.le_refl _) (hIx.put k1 k2 (by omega) rfl _) ((World.putObj_heap_other (by omega)).trans k3)⟩
end Go.Proofs.YthojdoiffkdikaaGreatDoor
end
