/- Ahead of the first go statement, from behind; behind the join, beside leavers: words for own steps and for calls out of their contracts alone. -/
import Derived.Test.YtmoajpkgdimdaaaAddT
import Derived.Conc.Own3
set_option linter.unusedSectionVars false
set_option linter.unusedVariables false
namespace Go.Proofs.Ytmoajpkgdimdaaa
open Go.Conc Go.ConcN Go.RowKit Go.Conc.Lib
open Go.ConcR (KK wgBlock WgAt stA smA rd wr mk Payload ofEvent_loc_mark)

/-- The trace so far: goroutine 0 alone, d 'disable's open, no release. -/
structure TG (d : Nat) (t : Trace) : Prop where
  own : ∀ op ∈ t, op.g = 0
  deaf : Deaf t 0 = d
  nor : ∀ a, NoRelease a t
theorem loc_of_mark {e : Event} {m : Mark} (h : MemAct.ofEvent e = .mark m) : e.loc = .mark m := by
  obtain ⟨loc, wr, sy⟩ := e
  cases loc with
  | mark m' => simpa [MemAct.ofEvent] using h
  | obj c => cases wr <;> cases sy <;> simp [MemAct.ofEvent] at h
  | _ => simp [MemAct.ofEvent] at h
theorem TG.nil : TG 0 #[] := ⟨by simp, rfl, fun a i => by simp [Trace.act?]⟩
theorem deafStep_still {g d : Nat} {y : MemOp} {e : Event} (hy : y.act = .ofEvent e) (he : NoM e) : deafStep g d y = d := by
  unfold deafStep
  rw [hy]
  obtain ⟨h1, h2, h3⟩ := he
  obtain ⟨loc, wr, sy⟩ := e
  cases loc with
  | mark m => cases m <;> simp_all [MemAct.ofEvent]
  | obj c => cases wr <;> cases sy <;> simp [MemAct.ofEvent]
  | _ => simp [MemAct.ofEvent]
theorem TG.app {d : Nat} {t u : Trace} (h : TG d t) (hu : ∀ op ∈ u, op.g = 0 ∧ ∃ e, NoM e ∧ op.act = .ofEvent e) : TG d (t ++ u) := by
  refine ⟨fun op hop => (Array.mem_append.1 hop).elim (h.own op) fun hop => (hu op hop).1, ?_, fun a => (h.nor a).app fun op hop => ?_⟩
  · obtain ⟨l⟩ := u
    rw [Deaf_append, h.deaf]
    have hl : ∀ op ∈ l, ∃ e, NoM e ∧ op.act = .ofEvent e := fun op hop => (hu op (by simpa using hop)).2
    clear hu
    induction l with
    | nil => rfl
    | cons y l ih =>
      obtain ⟨e, he, hy⟩ := hl y (by simp)
      rw [List.foldl_cons, deafStep_still hy he]
      exact ih fun op hop => hl op (by simp [hop])
  · obtain ⟨_, e, he, ha⟩ := hu op hop
    rw [ha]
    intro hc
    exact he.2.2 a (loc_of_mark hc)
theorem TG.es {d : Nat} {t : Trace} (h : TG d t) {fn : FuncId} {pos : String} {es : Array Event} (he : ∀ e ∈ es, NoM e) : TG d (t ++ MemOp.ofEvents 0 fn pos es) :=
  h.app fun op hop => by
    obtain ⟨e, hm, rfl⟩ := mem_ofEv hop
    exact ⟨rfl, e, he e hm, rfl⟩
theorem TG.marked {d : Nat} {t : Trace} (h : TG d t) {fn : FuncId} {pos : String} {m : Mark} (hm : ∀ a, m ≠ .release a) {d' : Nat} (hd : deafBehind d #[Go.ConcR.mk m] = d') : TG d' (t ++ MemOp.ofEvents 0 fn pos #[Go.ConcR.mk m]) := by
  refine ⟨fun op hop => (Array.mem_append.1 hop).elim (h.own op) fun hop => ?_, by rw [Deaf_own, h.deaf]; exact hd, fun a => (h.nor a).app fun op hop => ?_⟩
  · obtain ⟨e, _, rfl⟩ := mem_ofEv hop; rfl
  · obtain ⟨e, he, rfl⟩ := mem_ofEv hop
    simp at he
    subst he
    intro hc
    have := loc_of_mark (e := Go.ConcR.mk m) (m := .release a) hc
    exact hm a (by simpa [Go.ConcR.mk] using this)

section
variable {P : Program} {Post : Value → World → Prop}
/-- From here, alone, it ends well. -/
def E (P : Program) (Post : Value → World → Prop) (d : Nat) (g : Goroutine) (w : World) : Prop := ∀ t, TG d t → EndsGood P Post (solo g w) t
variable {d : Nat} {g g' : Goroutine} {w w' : World} {es : Array Event}
theorem E.step (hs : g.status = .running) (h : stepG P true g w = .go g' w' es) (he : ∀ e ∈ es, NoM e) (next : E P Post d g' w') : E P Post d g w :=
  fun t ht => EndsGood.step ((stepT_solo hs).trans (runT_solo_go h)) (next _ (ht.es he))
theorem eS (hs : g.status = .running) (h : stepG P true g w = .go g' w #[]) (next : E P Post d g' w) : E P Post d g w := E.step hs h (by simp) next
theorem E.goes {S : Goroutine → World → Prop} (hG : GoesW P true DS S g w) (h : ∀ g' w', S g' w' → E P Post d g' w') : E P Post d g w := by
  induction hG with
  | stop hs => exact h _ _ (hs _)
  | step g' w' es hrun h1 h2 ih => exact E.step hrun (h1 _).1 (h1 _).2 (ih _)
theorem E.disable {Next : Goroutine → World → Prop} (h : AtMk P .disable Next g w) (next : ∀ g' w', Next g' w' → E P Post (d + 1) g' w') : E P Post d g w := fun t ht => by
  obtain ⟨hs, g', e, hn⟩ := h
  exact EndsGood.step ((stepT_solo hs).trans (runT_solo_go e)) (next _ _ hn _ (ht.marked (by simp) (by simp [deafBehind, Go.ConcR.mk])))
theorem E.enable {Next : Goroutine → World → Prop} (h : AtMk P .enable Next g w) (next : ∀ g' w', Next g' w' → E P Post d g' w') : E P Post (d + 1) g w := fun t ht => by
  obtain ⟨hs, g', e, hn⟩ := h
  exact EndsGood.step ((stepT_solo hs).trans (runT_solo_go e)) (next _ _ hn _ (ht.marked (by simp) (by simp [deafBehind, Go.ConcR.mk])))
theorem yEv_nom {H : Nat → Prop} {e : Event} (h : yEv H e) : NoM e := by
  rcases h with ⟨a, h, _⟩ | ⟨r, h, _⟩ | ⟨m, h, hm⟩
  · rw [NoM, h]; simp
  · rw [NoM, h]; simp
  · rw [NoM, h]; cases m <;> simp_all [okMark]

variable {b : Frame} {a : Act} {k : List Item} {cs : List Frame} {ops : Array Oper} {i : Nat} {rest : List Nat} {o : Oper}
theorem eV (v : Value) (ho : ops[i]? = some o) (hw : Region.wanted o (yielded ops a.tmps) = true) (hk : b.kind ≠ .early) (hr : (execOp a.eval o).run P w = .ok (.value v) w') (he : ∀ e ∈ (execOp a.eval o).events P w #[], NoM e)
    (next : E P Post d (G (b.at (a.put o.dst v) (.inRegion ops rest :: k)) cs) w') : E P Post d (G (b.at a (.inRegion ops (i :: rest) :: k)) cs) w :=
  E.step rfl (stepG_value ho hw hk hr) (fun e h => he e (mem_listed h)) next
/-- One that only writes. -/
theorem eN (ho : ops[i]? = some o) (hw : Region.wanted o (yielded ops a.tmps) = true) (hk : b.kind ≠ .early) (hr : (execOp a.eval o).run P w = .ok .skip w') (he : ∀ e ∈ (execOp a.eval o).events P w #[], NoM e)
    (next : E P Post d (G (b.at (a.put o.dst undef) (.inRegion ops rest :: k)) cs) w') : E P Post d (G (b.at a (.inRegion ops (i :: rest) :: k)) cs) w :=
  E.step rfl (stepG_none ho hw hk hr) (fun e h => he e (mem_listed h)) next
/-- A call, out of its contract alone. -/
theorem stepG_callE {main : Bool} {f : FuncId} {fn : Func} {args : Array Operand} {ats : Array TypeId} (w : World) (ho : ops[i]? = some o) (hw : Region.wanted o (yielded ops a.tmps) = true) (hk : b.kind ≠ .early)
    (hop : o.op = .call { callee := .value (.func f), args, argTypes := ats }) (hf : P.funcs[f]? = some fn) (hname : (fn.name == "runtime.NumGoroutine") = false) (hb : fn.body.isNone = false) :
    stepG P main (G (b.at a (.inRegion ops (i :: rest) :: k)) cs) w = .go (G (Frame.enter P f (args.map a.eval) .normal) (b.at a (.inRegion ops (i :: rest) :: k) :: cs)) w #[] := by
  rw [stepG_enter ho hw hk (run_call_body hop hf hname hb)]
  have : listed P b.fn a o w = #[] := by unfold listed; rw [events_call_body hop hf hname hb]; exact seen_none P _
  rw [this]
theorem eCall {S : Nat → Bool} {H : Nat → Prop} (hS : SOk P S) {f : Nat} {os : Array Operand} {ats : Array TypeId} {args : Array Value} {R : Ending → World → Prop} (ho : ops[i]? = some o) (hw : Region.wanted o (yielded ops a.tmps) = true) (hk : b.kind ≠ .early)
    (hop : o.op = .call { callee := .value (.func f), args := os, argTypes := ats }) (hos : os.map a.eval = args) (hf : S f = true) (ha : ∀ x ∈ args, y0 H (sP S) x) (hy : yHeap H (sP S) w) (hc : Calls P f args w R) (hR : ∀ e w', R e w' → ∃ v, e = .returned v)
    (next : ∀ v w', R (.returned v) w' → E P Post d (G (b.at (a.put o.dst v) (.inRegion ops rest :: k)) cs) w') : E P Post d (G (b.at a (.inRegion ops (i :: rest) :: k)) cs) w := by
  obtain ⟨fn, hfn, hbody, hname⟩ := hS.has f hf
  subst hos
  refine eS (g' := G (Frame.enter P f (os.map a.eval) .normal) (b.at a (.inRegion ops (i :: rest) :: k) :: cs)) rfl (stepG_callE w ho hw hk hop hfn hname hbody) ?_
  intro t ht
  obtain ⟨n, v, w', u, hn, hv, -, hu, -⟩ := call_traced hS hf ha hy hc hR (b.at a (.inRegion ops (i :: rest) :: k)) cs t
  have hfin : (b.at a (.inRegion ops (i :: rest) :: k)).finish v = b.at (a.put o.dst v) (.inRegion ops rest :: k) := by rw [Frame.finish_at, ho]; rfl
  rw [hfin] at hn
  exact EndsGood.after hn (next v w' hv _ (ht.app fun op hop => by
    obtain ⟨h1, e, h2, h3⟩ := hu op hop
    exact ⟨h1, e, yEv_nom h2, h3⟩))
end

/-! ### beside leavers -/
def DE (Sh : Loc → Prop) (_ _ : World) (es : Array Event) : Prop := ∀ e ∈ es, EvS Sh e
theorem de0 {Sh : Loc → Prop} : ∀ w, DE Sh w w #[] := fun _ e he => by simp at he
section
variable {P : Program} {main : Bool} {D D' : World → World → Array Event → Prop} {S S' : Goroutine → World → Prop} {g : Goroutine} {w : World}
theorem GoesW.then {I : World → Prop} (hG : GoesW P main D S g w) (hat : ∀ w d, I w → I (w.at d)) (hD : ∀ w w' es, I w → D w w' es → I w' ∧ D' w w' es) (next : ∀ g' w', S g' w' → I w' → GoesW P main D' S' g' w') (hI : I w) : GoesW P main D' S' g w := by
  induction hG with
  | stop hs => exact next _ _ (hs _) hI
  | step g' w' es hrun h1 h2 ih => exact .step g' w' es hrun (fun d => ⟨(h1 d).1, (hD _ _ _ (hat _ d hI) (h1 d).2).2⟩) fun d => ih d (hD _ _ _ (hat _ d hI) (h1 d).2).1
variable {Sh : Loc → Prop}
theorem yEv_evS {H : Nat → Prop} {e : Event} (hSh : ∀ l, Sh l → (∃ a, l = .cell a ∧ ¬ H a.block) ∨ ∃ c, l = .obj c ∧ ¬ H c) (h : yEv H e) : EvS Sh e := by
  have n := yEv_nom h
  refine ⟨fun x hx hs => ?_, n.1, n.2.1⟩
  have hl : x.loc = e.loc ∨ ∃ m, e.loc = .mark m := by
    obtain ⟨loc, wr, sy⟩ := e
    cases loc with
    | mark m => exact .inr ⟨m, rfl⟩
    | obj c => cases wr <;> cases sy <;> simp [MemAct.ofEvent, MemAct.touch?] at hx <;> (try subst hx) <;> exact .inl rfl
    | cell c => simp [MemAct.ofEvent, MemAct.touch?] at hx; subst hx; exact .inl rfl
    | _ => simp [MemAct.ofEvent, MemAct.touch?] at hx; subst hx; exact .inl rfl
  rcases h with ⟨a, h, ha⟩ | ⟨r, h, ha⟩ | ⟨m, h, hm⟩
  · rcases hl with hl | ⟨m, hm⟩
    · rw [hl, h] at hs
      rcases hSh _ hs with ⟨a', e', hn⟩ | ⟨c, e', _⟩
      · cases e'; exact absurd ha hn
      · cases e'
    · rw [h] at hm; cases hm
  · rcases hl with hl | ⟨m, hm⟩
    · rw [hl, h] at hs
      rcases hSh _ hs with ⟨a', e', hn⟩ | ⟨c, e', hn⟩
      · cases e'
      · cases e'; exact absurd ha hn
    · rw [h] at hm; cases hm
  · obtain ⟨loc, wr, sy⟩ := e
    dsimp only at h
    subst h
    cases m <;> simp_all [MemAct.ofEvent, MemAct.touch?, okMark]
variable {b : Frame} {a : Act} {k : List Item} {cs : List Frame} {ops : Array Oper} {i : Nat} {rest : List Nat} {o : Oper}
/-- A call beside leavers, out of its contract alone: what it gives is a plain value. -/
theorem gwCall {S : Nat → Bool} (hS : SOk P S) {f : Nat} {os : Array Operand} {ats : Array TypeId} {args : Array Value} {Q : Value → Prop} (ho : ops[i]? = some o) (hw : Region.wanted o (yielded ops a.tmps) = true) (hk : b.kind ≠ .early)
    (hop : o.op = .call { callee := .value (.func f), args := os, argTypes := ats }) (hos : os.map a.eval = args) (hf : S f = true) (ha : ∀ x ∈ args, y0 (w.heap.size ≤ ·) (sP S) x)
    (hSh : ∀ l, Sh l → (∃ x, l = .cell x ∧ x.block < w.heap.size) ∨ ∃ c, l = .obj c ∧ c < w.heap.size) (hc : ∀ w₁, Calls P f args w₁ fun e w' => ∃ v, e = .returned v ∧ Q v)
    (next : ∀ v w', Q v → Below w.heap.size w w' → GoesW P true (DE Sh) S' (G (b.at (a.put o.dst v) (.inRegion ops rest :: k)) cs) w') :
    GoesW P true (DE Sh) S' (G (b.at a (.inRegion ops (i :: rest) :: k)) cs) w := by
  obtain ⟨fn, hfn, hbody, hname⟩ := hS.has f hf
  subst hos
  refine gwS de0 (g' := G (Frame.enter P f (os.map a.eval) .normal) (b.at a (.inRegion ops (i :: rest) :: k) :: cs)) rfl (fun w₁ => stepG_callE w₁ ho hw hk hop hfn hname hbody) ?_
  have hy : yHeap (w.heap.size ≤ ·) (sP S) w := ⟨fun _ h => h, fun b o hb ho => by rw [Array.getElem?_eq_none hb] at ho; cases ho⟩
  have hb := call_beside hS hf ha hy (R := fun _ e _ => ∃ v, e = .returned v ∧ Q v) (fun τ => hc _) (fun τ e w' ⟨v, h, _⟩ => ⟨v, h⟩) (b.at a (.inRegion ops (i :: rest) :: k)) cs
  refine hb.then (I := fun w1 => Below w.heap.size w w1) (fun _ _ h => ⟨h.os, h.tape, h.output, h.size, h.block⟩) (fun w1 w2 es h hD => ?_) ?_ (Below.refl _ _)
  · obtain ⟨h1, h4, h5, h6, h2, h3⟩ := hD
    refine ⟨⟨h5.trans h.os, h4.trans h.tape, h6.trans h.output, Nat.le_trans h.size h2, fun b hb => (h1 b (by omega)).trans (h.block b hb)⟩, fun e hee => yEv_evS (fun l hl => ?_) (h3 e hee)⟩
    rcases hSh l hl with ⟨x, e1, e2⟩ | ⟨c, e1, e2⟩
    · exact .inl ⟨x, e1, by omega⟩
    · exact .inr ⟨c, e1, by omega⟩
  · rintro g' w' ⟨τ, v, wg, rfl, ⟨v', e1, hq⟩, -, -, -⟩ hI
    obtain rfl : v = v' := by injection e1
    have hfin : (b.at a (.inRegion ops (i :: rest) :: k)).finish v = b.at (a.put o.dst v) (.inRegion ops rest :: k) := by rw [Frame.finish_at, ho]; rfl
    rw [hfin]
    exact next v w' hq hI
/-- An own operation at known cells. -/
theorem gwO (v : Value) (ho : ops[i]? = some o) (hw : Region.wanted o (yielded ops a.tmps) = true) (hk : b.kind ≠ .early) (hr : ∀ d, (execOp a.eval o).run P (w.at d) = .ok (.value v) (w.at d)) (he : ∀ d, ∀ e ∈ (execOp a.eval o).events P (w.at d) #[], EvS Sh e)
    (next : GoesW P main (DE Sh) S' (G (b.at (a.put o.dst v) (.inRegion ops rest :: k)) cs) w) : GoesW P main (DE Sh) S' (G (b.at a (.inRegion ops (i :: rest) :: k)) cs) w :=
  GoesW.mk rfl fun d => ⟨_, _, _, stepG_value ho hw hk (hr d), fun e h => he d e (mem_listed h), GoesW.at next d⟩
theorem evS_read {x : Addr} (h : ¬ Sh (.cell x)) : EvS Sh ⟨.cell x, false, false⟩ := by
  refine ⟨fun y hy hs => ?_, by simp, by simp⟩
  have hy' : some (⟨.cell x, false, .plain⟩ : Touch) = some y := hy
  cases hy'
  exact absurd hs h
end
/-- Nobody else is there. -/
theorem E.leave {P : Program} {Post : Value → World → Prop} {g : Goroutine} {w : World} (h : GoesW P true (DE fun _ => False) (AtEndS P (fun _ => False) Post) g w) : E P Post 0 g w := fun t ht => by
  refine beside_endsW (Shun := fun _ => False) (fun w w' es h => h) h 1 #[g] w none t (fun _ => 0) ⟨w.drawn, rfl⟩ (by simp [sumTo]) rfl ⟨fun i x hi hx => ?_, fun j hj => ?_⟩ ⟨fun said => ?_, fun i a ha _ => ?_, fun i g' hg hne _ => ?_, ht.deaf⟩
  · rw [Array.getElem?_eq_none (by simp; omega)] at hx; cases hx
  · exact Deaf_absent fun q op ho => by rw [ht.own op (Array.mem_of_getElem? ho)]; simp at hj; omega
  · have := noRace_append (t := #[]) (u := t) (g := 0) (noRace_nil said) ht.own (fun i a ha => by simp [touchAt, Trace.act?] at ha)
    simpa using this
  · obtain ⟨x, hx, -⟩ := touch_of ha
    have := knows_own hx
    rw [ht.own x (Array.mem_of_getElem? hx)] at this
    exact .inl this
  · obtain ⟨op, ho, rfl⟩ := Option.map_eq_some_iff.1 hg
    exact absurd (ht.own op (Array.mem_of_getElem? ho)) hne
/-- The last step. -/
theorem atEnd {P : Program} {Sh : Loc → Prop} {Post : Value → World → Prop} {b : Frame} {a : Act} {todo : List Item} {fn : Func} {v : Value} {w : World} (hn : b.kind = .normal) (hin : P.inits.idxOf? b.fn = none) (hd : a.defers = []) (hf : P.funcs[b.fn]? = some fn) (hr : ∀ w, (results fn a.tmps).run P w = .ok v w) (he : ∀ w, (results fn a.tmps).events P w #[] = #[]) (hp : ∀ d, Post v (w.at d)) :
    GoesW P true (DE Sh) (AtEndS P Sh Post) (G { b.at a todo with mode := .returning } []) w := .stop fun d => by
  refine ⟨rfl, v, #[], ?_, by simp, hp d⟩
  have h1 := hr (w.at d)
  have h2 := he (w.at d)
  simp [G, stepG, unwind, Frame.at, hd, hf, hn, hin, h1, h2, doReturn, GStep.after, seen]
/-! ### the functions of the swings that make no goroutine -/
def LS : List Nat := [5, 6, 7, 8, 10, 11, 12, 13, 14, 15, 16, 17, 18, 19, 20, 21, 25, 29, 30, 31, 32, 33, 34, 35, 36, 50, 56, 57, 58]
def SS (k : Nat) : Bool := LS.contains k
def fnOk (P : Program) (S : Nat → Bool) (k : Nat) : Bool := match P.funcs[k]? with
  | some fn => !fn.body.isNone && !(fn.name == "runtime.NumGoroutine") && (match fn.body with | some c => okCode P S c | none => false)
  | none => false
theorem sok_all : LS.all (fnOk Try.prog SS) = true := by kernel_rfl
theorem sok : SOk Try.prog SS := by
  have h : ∀ k, SS k = true → fnOk Try.prog SS k = true := fun k hk => List.all_eq_true.1 sok_all k (by simpa [SS] using hk)
  generalize Try.prog = P at h ⊢
  refine ⟨fun k hk => ?_, fun k fn c hk hf hb => ?_⟩
  · have := h k hk
    unfold fnOk at this
    split at this
    · rename_i fn hf
      simp only [Bool.and_eq_true, Bool.not_eq_true'] at this
      exact ⟨fn, hf, this.1.1, this.1.2⟩
    · cases this
  · have := h k hk
    unfold fnOk at this
    rw [hf] at this
    simp only [hb, Bool.and_eq_true] at this
    exact this.2
end Go.Proofs.Ytmoajpkgdimdaaa
