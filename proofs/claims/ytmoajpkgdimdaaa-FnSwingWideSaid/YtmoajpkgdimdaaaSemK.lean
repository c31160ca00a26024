/- Two runs of one computation in worlds that part in the tape alone. Two steps of the same good frames, over other frames, in worlds that part in the tape alone. -/
import Derived.Test.YtmoajpkgdimdaaaSemI
section -- a part
namespace Go.Proofs.Ytmoajpkgdimdaaa

structure Same (w1 w2 : World) : Prop where
  heap : w1.heap = w2.heap
  os : w1.os = w2.os
  output : w1.output = w2.output
def Agree (w1 w2 : World) (d : Nat) : Prop := ∀ i, i < d → ∀ q, w1.tape (w1.drawn + i) q = w2.tape (w2.drawn + i) q
def resW {α : Type} : Result α → World
  | .ok _ w => w
  | .halt _ w => w
def ResSame {α : Type} : Result α → Result α → Prop
  | .ok a w, .ok b w' => a = b ∧ Same w w'
  | .halt h w, .halt h' w' => h = h' ∧ Same w w'
  | _, _ => False
section
variable {H : Nat → Prop} {S : Nat → Prop} {P : Program} {α : Type}
theorem Same.refl (w : World) : Same w w := ⟨rfl, rfl, rfl⟩
theorem Same.cell {w1 w2 : World} (h : Same w1 w2) (a : Addr) : w1.cell? a = w2.cell? a := by unfold World.cell?; rw [h.heap]
theorem Same.frozen {w1 w2 : World} (h : Same w1 w2) (a : Addr) : w1.frozen? a = w2.frozen? a := by unfold World.frozen?; rw [h.heap]
theorem Same.shape {w1 w2 : World} (h : Same w1 w2) (r : Nat) : w1.shape? r = w2.shape? r := by unfold World.shape?; rw [h.heap]
theorem Same.noCell {w1 w2 : World} (h : Same w1 w2) (a : Addr) (s : String) : w1.noCell a s = w2.noCell a s := by unfold World.noCell; rw [h.heap]
theorem Same.setCell {w1 w2 : World} (h : Same w1 w2) (a : Addr) (v : Value) : Same (w1.setCell a v) (w2.setCell a v) := ⟨by unfold World.setCell; rw [h.heap], h.os, h.output⟩
theorem Same.freeze {w1 w2 : World} (h : Same w1 w2) (a : Addr) (n : Nat) : Same (w1.freeze a n) (w2.freeze a n) := by
  unfold World.freeze
  split
  · exact h
  · exact ⟨by dsimp only; rw [h.heap], h.os, h.output⟩
theorem Same.young {w1 w2 : World} (h : Same w1 w2) (hw : yHeap H S w1) : yHeap H S w2 := ⟨by rw [← h.heap]; exact hw.size, fun b o hb ho => hw.obj b o hb (by rw [h.heap]; exact ho)⟩
theorem setCell_drawn (w : World) (a : Addr) (v : Value) : (w.setCell a v).drawn = w.drawn := rfl
theorem setCell_tape (w : World) (a : Addr) (v : Value) : (w.setCell a v).tape = w.tape := rfl
theorem freeze_drawn (w : World) (a : Addr) (n : Nat) : (w.freeze a n).drawn = w.drawn := by unfold World.freeze; split <;> rfl
theorem freeze_tape (w : World) (a : Addr) (n : Nat) : (w.freeze a n).tape = w.tape := by unfold World.freeze; split <;> rfl
/-- What is claimed of two runs. -/
structure TwoR (w1 w2 : World) (r1 r2 : Result α × Array Event) : Prop where
  le1 : w1.drawn ≤ (resW r1.1).drawn
  tape1 : (resW r1.1).tape = w1.tape
  two : Agree w1 w2 ((resW r1.1).drawn - w1.drawn) → r1.2 = r2.2 ∧ ResSame r1.1 r2.1 ∧ (resW r2.1).drawn = w2.drawn + ((resW r1.1).drawn - w1.drawn) ∧ (resW r2.1).tape = w2.tape
theorem TwoR.halt {w1 w2 : World} (h : Same w1 w2) (x : Halt) (es : Array Event) : TwoR w1 w2 ((.halt x w1, es) : Result α × Array Event) (.halt x w2, es) := ⟨Nat.le_refl _, rfl, fun _ => ⟨rfl, ⟨rfl, h⟩, by simp [resW], rfl⟩⟩
theorem TwoR.from {w1 w2 v1 v2 : World} {r1 r2 : Result α × Array Event} (h : TwoR v1 v2 r1 r2) (d1 : v1.drawn = w1.drawn) (d2 : v2.drawn = w2.drawn) (t1 : v1.tape = w1.tape) (t2 : v2.tape = w2.tape) : TwoR w1 w2 r1 r2 := by
  refine ⟨by rw [← d1]; exact h.le1, h.tape1.trans t1, fun ha => ?_⟩
  obtain ⟨e1, e2, e3, e4⟩ := h.two (by unfold Agree at *; rw [t1, t2, d1, d2]; exact ha)
  exact ⟨e1, e2, by rw [← d1, ← d2]; exact e3, e4.trans t2⟩
theorem run_two {Q : α → Prop} : ∀ {s : Sem α}, yg H S P Q s → ∀ (w1 w2 : World) (es : Array Event), Same w1 w2 → yHeap H S w1 → TwoR w1 w2 (s.runT P w1 es) (s.runT P w2 es)
  | .pure a, _, w1, w2, es, hs, _ => ⟨Nat.le_refl _, rfl, fun _ => ⟨rfl, ⟨rfl, hs⟩, by simp [Sem.runT, resW], rfl⟩⟩
  | .load m a k, h, w1, w2, es, hs, hw => by
    simp only [Sem.runT]
    rw [← hs.cell a]
    split
    · rename_i v hv
      exact run_two (h.2 v (hw.cell h.1 hv)) w1 w2 _ hs hw
    · rw [hw.farLoad h.1, (hs.young hw).farLoad h.1, ← hs.noCell]
      exact .halt hs _ _
  | .store m a v k, h, w1, w2, es, hs, hw => by
    have key : TwoR w1 w2 (match w1.cell? a with
          | some _ => if w1.frozen? a then (.halt (.unsupported (.unsafePointer "a write to bytes that a string shares")) w1, es) else k.runT P (w1.setCell a v) (es.push ⟨.cell a, true, m == .atomic⟩)
          | none => match w1.farStore P a v (m == .atomic) with
            | .ok (w, touched) => k.runT P w (es ++ touched.toArray.map (⟨.cell ·, true, m == .atomic⟩))
            | .error h => (.halt h w1, es))
        (match w2.cell? a with
          | some _ => if w2.frozen? a then (.halt (.unsupported (.unsafePointer "a write to bytes that a string shares")) w2, es) else k.runT P (w2.setCell a v) (es.push ⟨.cell a, true, m == .atomic⟩)
          | none => match w2.farStore P a v (m == .atomic) with
            | .ok (w, touched) => k.runT P w (es ++ touched.toArray.map (⟨.cell ·, true, m == .atomic⟩))
            | .error h => (.halt h w2, es)) := by
      rw [← hs.cell a, ← hs.frozen a, hw.farStore h.1, (hs.young hw).farStore h.1, ← hs.noCell]
      split
      · split
        · exact .halt hs _ _
        · exact (run_two h.2.2 _ _ _ (hs.setCell a v) (yStep.setCell hw h.1 h.2.1).heap).from rfl rfl rfl rfl
      · exact .halt hs _ _
    cases v <;> first | exact key | exact .halt hs _ _
  | .new o k, h, w1, w2, es, hs, hw => by
    simp only [Sem.runT]
    rw [← hs.heap]
    exact (run_two (h.2 _ (hw.size _ (Nat.le_refl _))) { w1 with heap := w1.heap.push o } { w2 with heap := w1.heap.push o } es ⟨rfl, hs.os, hs.output⟩ (yStep.new hw h.1).heap).from rfl rfl rfl rfl
  | .shape r k, h, w1, w2, es, hs, hw => by
    simp only [Sem.runT]
    rw [← hs.shape]
    exact run_two (h _) w1 w2 es hs hw
  | .freeze a n k, h, w1, w2, es, hs, hw => by
    simp only [Sem.runT]
    exact (run_two h.2 _ _ _ (hs.freeze a n) (yStep.freeze hw h.1 n).heap).from (freeze_drawn ..) (freeze_drawn ..) (freeze_tape ..) (freeze_tape ..)
  | .frozen a k, h, w1, w2, es, hs, hw => by
    simp only [Sem.runT]
    rw [← hs.frozen]
    exact run_two (h _) w1 w2 es hs hw
  | .getObj r k, h, w1, w2, es, hs, hw => by
    simp only [Sem.runT]
    rw [← hs.heap]
    split
    · exact .halt hs _ _
    · rename_i o hn ho
      exact run_two (h.2 o (hw.obj _ _ h.1 ho)) w1 w2 _ hs hw
    · exact .halt hs _ _
  | .setObj _ _ _, h, _, _, _, _, _ => h.elim
  | .choose q k, h, w1, w2, es, hs, hw => by
    simp only [Sem.runT]
    split
    · exact run_two (h _) w1 w2 es hs hw
    · have i1 := fun n => run_two (h n) { w1 with drawn := w1.drawn + 1 } { w2 with drawn := w2.drawn + 1 } es ⟨hs.heap, hs.os, hs.output⟩ (yStep.drew hw).heap
      refine ⟨?_, (i1 _).tape1, fun ha => ?_⟩
      · have := (i1 (q.cut (w1.tape w1.drawn q))).le1
        exact Nat.le_trans (Nat.le_succ _) this
      · have hle := (i1 (q.cut (w1.tape w1.drawn q))).le1
        have h0 : w1.tape w1.drawn q = w2.tape w2.drawn q := ha 0 (by show 0 < _ - _; have : w1.drawn + 1 ≤ _ := hle; omega) q
        rw [← h0]
        obtain ⟨e1, e2, e3, e4⟩ := (i1 (q.cut (w1.tape w1.drawn q))).two (fun i hi q' => by
          have := ha (i + 1) (by have h1 : w1.drawn + 1 ≤ _ := hle; have h2 : i < _ - (w1.drawn + 1) := hi; omega) q'
          rw [show w1.drawn + (i + 1) = w1.drawn + 1 + i by omega, show w2.drawn + (i + 1) = w2.drawn + 1 + i by omega] at this
          exact this)
        refine ⟨e1, e2, ?_, e4⟩
        have h1 : w1.drawn + 1 ≤ _ := hle
        rw [e3]
        show w2.drawn + 1 + (_ - (w1.drawn + 1)) = w2.drawn + (_ - w1.drawn)
        omega
  | .sys _ _, h, _, _, _, _, _ => h.elim
  | .program k, h, w1, w2, es, hs, hw => run_two (s := k P) h w1 w2 es hs hw
  | .mark m k, h, w1, w2, es, hs, hw => run_two h.2 w1 w2 _ hs hw
  | .halt h', _, w1, w2, es, hs, _ => .halt hs _ _
end
end Go.Proofs.Ytmoajpkgdimdaaa
end
section -- a part
namespace Go.Proofs.Ytmoajpkgdimdaaa

def Two2 (b1 b2 : List Frame) (w1 w2 : World) (r2 : GStep) : GStep → Prop
  | .go g1 w1' es => w1.drawn ≤ w1'.drawn ∧ w1'.tape = w1.tape ∧ (Agree w1 w2 (w1'.drawn - w1.drawn) → ∃ fr' seg' w2', g1 = Conc.G fr' (seg' ++ b1) ∧ r2 = .go (Conc.G fr' (seg' ++ b2)) w2' es ∧ Same w1' w2' ∧ w2'.drawn = w2.drawn + (w1'.drawn - w1.drawn) ∧ w2'.tape = w2.tape)
  | .ended _ w1' _ => w1.drawn ≤ w1'.drawn ∧ (Agree w1 w2 (w1'.drawn - w1.drawn) → ∃ o' w2' es', r2 = .ended o' w2' es')
  | _ => False
section
variable {P : Program} {S : Nat → Bool} {H : Nat → Prop} {fr : Frame} {seg b1 b2 : List Frame} {w1 w2 : World}
theorem Two2.same (hs : Same w1 w2) {fr' : Frame} {seg' : List Frame} {es : Array Event} : Two2 b1 b2 w1 w2 (.go (Conc.G fr' (seg' ++ b2)) w2 es) (.go (Conc.G fr' (seg' ++ b1)) w1 es) :=
  ⟨Nat.le_refl _, rfl, fun _ => ⟨fr', seg', w2, rfl, rfl, hs, by simp, rfl⟩⟩
theorem Two2.lost {o o' : Outcome} {es es' : Array Event} : Two2 b1 b2 w1 w2 (.ended o' w2 es') (.ended o w1 es) := ⟨Nat.le_refl _, fun _ => ⟨_, _, _, rfl⟩⟩
theorem apply_two (h : gF P S H fr) {ops : Array Oper} {i : Nat} {rest : List Nat} {k : List Item} (ht : fr.todo = .inRegion ops (i :: rest) :: k) {s : Sem Next} (hy : yg H (sP S) P (yN H (sP S)) s) (hs : Same w1 w2) (hw : yHeap H (sP S) w1) :
    Two2 b1 b2 w1 w2 (stepG.apply P true fr (seg ++ b2) none s w2) (stepG.apply P true fr (seg ++ b1) none s w1) := by
  have hr := yg_run hy w1 #[] hw
  obtain ⟨-, hr2⟩ := hr
  obtain ⟨hle, htp, htwo⟩ := run_two hy w1 w2 #[] hs hw
  unfold stepG.apply
  simp only [if_true, ht, h.kind]
  generalize hrr : s.runT P w1 #[] = r at hr2 hle htp htwo
  generalize hrr2 : s.runT P w2 #[] = r2 at htwo
  obtain ⟨r, es⟩ := r
  obtain ⟨r2, es2⟩ := r2
  dsimp only at hr2 hle htp htwo ⊢
  have hk : (CallKind.normal == CallKind.early) = false := rfl
  cases r with
  | ok n w' =>
    obtain ⟨hn, -⟩ := hr2
    cases n with
    | value v =>
      simp only [hk, Bool.false_eq_true, if_false, GStep.after, Array.append_empty]
      refine ⟨hle, htp, fun ha => ?_⟩
      obtain ⟨e1, e2, e3, e4⟩ := htwo ha
      cases r2 with
      | halt _ _ => exact e2.elim
      | ok n2 w2' =>
        obtain ⟨rfl, e2⟩ := e2
        exact ⟨fr.finish v, seg, w2', rfl, by rw [← e1]; rfl, e2, e3, e4⟩
    | skip =>
      simp only [hk, Bool.false_eq_true, if_false, GStep.after, Array.append_empty]
      refine ⟨hle, htp, fun ha => ?_⟩
      obtain ⟨e1, e2, e3, e4⟩ := htwo ha
      cases r2 with
      | halt _ _ => exact e2.elim
      | ok n2 w2' =>
        obtain ⟨rfl, e2⟩ := e2
        exact ⟨fr.finish undef, seg, w2', rfl, by rw [← e1]; rfl, e2, e3, e4⟩
    | enter f args =>
      simp only [hk, Bool.false_eq_true, if_false, GStep.after, Array.append_empty]
      refine ⟨hle, htp, fun ha => ?_⟩
      obtain ⟨e1, e2, e3, e4⟩ := htwo ha
      cases r2 with
      | halt _ _ => exact e2.elim
      | ok n2 w2' =>
        obtain ⟨rfl, e2⟩ := e2
        exact ⟨Frame.enter P f args .normal, fr :: seg, w2', rfl, by rw [← e1]; rfl, e2, e3, e4⟩
    | _ => exact hn.elim
  | halt hh w' =>
    obtain ⟨hn, -⟩ := hr2
    cases hh with
    | panic v =>
      simp only [hk, Bool.false_eq_true, if_false, GStep.after, Array.append_empty]
      refine ⟨hle, htp, fun ha => ?_⟩
      obtain ⟨e1, e2, e3, e4⟩ := htwo ha
      cases r2 with
      | ok _ _ => exact e2.elim
      | halt n2 w2' =>
        obtain ⟨rfl, e2⟩ := e2
        exact ⟨fr.raise [{ v, recovered := false }], seg, w2', rfl, by rw [← e1]; rfl, e2, e3, e4⟩
    | stuck m =>
      refine ⟨hle, fun ha => ?_⟩
      obtain ⟨e1, e2, e3, e4⟩ := htwo ha
      cases r2 with
      | ok _ _ => exact e2.elim
      | halt n2 w2' =>
        obtain ⟨rfl, e2⟩ := e2
        exact ⟨_, _, _, rfl⟩
    | unsupported u =>
      cases u <;> first
        | exact hn.elim
        | (refine ⟨hle, fun ha => ?_⟩
           obtain ⟨e1, e2, e3, e4⟩ := htwo ha
           cases r2 with
           | ok _ _ => exact e2.elim
           | halt n2 w2' =>
             obtain ⟨rfl, e2⟩ := e2
             exact ⟨_, _, _, rfl⟩)
    | _ => exact hn.elim
/-- ████ TWO STEPS. ████ -/
theorem step_two (hS : SOk P S) {main : Bool} (h : gF P S H fr) (hb : fr.mode = .run ∨ seg ≠ []) (hs : Same w1 w2) (hw : yHeap H (sP S) w1) :
    Two2 b1 b2 w1 w2 (stepG P main (Conc.G fr (seg ++ b2)) w2) (stepG P main (Conc.G fr (seg ++ b1)) w1) := by
  obtain ⟨fn, hfn, -, -⟩ := hS.has fr.fn h.known
  have stay : ∀ fr' : Frame, Two2 b1 b2 w1 w2 (.go (Conc.G fr' (seg ++ b2)) w2) (.go (Conc.G fr' (seg ++ b1)) w1) := fun fr' => Two2.same hs
  cases hm : fr.mode with
  | run =>
    obtain ⟨ffn, ftmps, ftodo, fdefers, fmode, fkind, fround⟩ := fr
    obtain rfl : fmode = .run := hm
    obtain rfl : fround = none := h.round
    have hall := h.todo
    dsimp only at hall
    cases ftodo with
    | nil => exact stay _
    | cons it k =>
      have hit := hall it (List.mem_cons_self ..)
      cases it with
      | code c =>
        cases c with
        | skip => exact stay _
        | label l => exact stay _
        | seq a b => exact stay _
        | cond c a b =>
          unfold Conc.G stepG
          simp only [stepG.exec]
          generalize Frame.eval _ c = v
          cases v <;> first | exact stay _ | exact Two2.lost
        | block id c => exact stay _
        | loop c => exact stay _
        | scope c => exact stay _
        | exit id =>
          unfold Conc.G stepG
          simp only [stepG.exec]
          cases he : exitTo id k with
          | none => exact Two2.lost
          | some k' => exact stay _
        | ret => exact stay _
        | region id ops draw =>
          cases draw with
          | false => exact stay _
          | true =>
            refine ⟨Nat.le_succ w1.drawn, rfl, fun ha => ?_⟩
            have h0 : w1.tape w1.drawn (.order ffn id) = w2.tape w2.drawn (.order ffn id) := ha 0 (by show 0 < w1.drawn + 1 - w1.drawn; omega) _
            refine ⟨{ fn := ffn, tmps := ftmps, todo := .inRegion ops (Region.schedule (P.follows .mixedOrders) ops (w1.tape w1.drawn (.order ffn id))) :: k, defers := fdefers, mode := .run, kind := fkind, roundOf := none }, seg, { w2 with drawn := w2.drawn + 1 }, rfl, ?_, ⟨hs.heap, hs.os, hs.output⟩, ?_, rfl⟩
            · rw [h0]; rfl
            · show w2.drawn + 1 = w2.drawn + (w1.drawn + 1 - w1.drawn); omega
        | _ => exact absurd hit Bool.false_ne_true
      | inBlock id => exact stay _
      | inScope c => exact stay _
      | inLoop c => exact stay _
      | inRegion ops is =>
        cases is with
        | nil => exact stay _
        | cons i rest =>
          unfold Conc.G stepG
          simp only [stepG.exec]
          split
          · rename_i hwant
            cases ho : ops[i]? with
            | none => rw [ho] at hwant; simp at hwant
            | some o =>
              have hoo : okOp P S o.op = true := by
                have : ops.all (fun o => okOp P S o.op) = true := hit
                rw [Array.all_eq_true_iff_forall_mem] at this
                exact this o (Array.mem_of_getElem? ho)
              have key := apply_two (seg := seg) (b1 := b1) (b2 := b2) h (ops := ops) (i := i) (rest := rest) (k := k) rfl (okOp_sound hS.has hoo h.reads) hs hw
              simp only [stepG.oper, Frame.oper?, ho]
              exact key
          · exact stay _
      | _ => exact absurd hit Bool.false_ne_true
  | returning =>
    cases seg with
    | nil => rcases hb with hb | hb
             · rw [hm] at hb; cases hb
             · exact absurd rfl hb
    | cons c seg =>
      obtain ⟨hle, htp, htwo⟩ := run_two (yg_results (fn := fn) h) w1 w2 #[] hs hw
      obtain ⟨ffn, ftmps, ftodo, fdefers, fmode, fkind, fround⟩ := fr
      obtain rfl : fmode = .returning := hm
      obtain rfl : fdefers = [] := h.defers
      obtain rfl : fkind = .normal := h.kind
      unfold Conc.G stepG
      simp only [unwind, hfn]
      dsimp only at hfn hle htp htwo
      generalize hrr : (results fn ftmps).runT P w1 #[] = r at hle htp htwo
      generalize hrr2 : (results fn ftmps).runT P w2 #[] = r2 at htwo
      obtain ⟨r, es⟩ := r
      obtain ⟨r2, es2⟩ := r2
      dsimp only at hle htp htwo
      cases r with
      | ok v w' =>
        simp only [doReturn, GStep.after, Array.append_empty, List.cons_append]
        refine ⟨hle, htp, fun ha => ?_⟩
        obtain ⟨e1, e2, e3, e4⟩ := htwo ha
        cases r2 with
        | halt _ _ => exact e2.elim
        | ok n2 w2' =>
          obtain ⟨rfl, e2⟩ := e2
          exact ⟨c.finish v, seg, w2', rfl, by rw [← e1]; simp [Conc.G], e2, e3, e4⟩
      | halt hh w' =>
        have key : Agree w1 w2 (w'.drawn - w1.drawn) → ∃ hh2 w2', r2 = .halt hh2 w2' := fun ha => by
          obtain ⟨e1, e2, e3, e4⟩ := htwo ha
          cases r2 with
          | ok _ _ => exact e2.elim
          | halt n2 w2' => exact ⟨_, _, rfl⟩
        cases hh <;>
          (refine ⟨hle, fun ha => ?_⟩
           obtain ⟨h2, w2', rfl⟩ := key ha
           cases h2 <;> exact ⟨_, _, _, rfl⟩)
  | panicking ch =>
    cases seg with
    | nil => rcases hb with hb | hb
             · rw [hm] at hb; cases hb
             · exact absurd rfl hb
    | cons c seg =>
      obtain ⟨ffn, ftmps, ftodo, fdefers, fmode, fkind, fround⟩ := fr
      obtain rfl : fmode = .panicking ch := hm
      obtain rfl : fdefers = [] := h.defers
      unfold Conc.G stepG
      simp only [unwind, List.cons_append]
      split
      · exact Two2.lost
      · exact Two2.same (seg' := seg) hs
end
end Go.Proofs.Ytmoajpkgdimdaaa
end
