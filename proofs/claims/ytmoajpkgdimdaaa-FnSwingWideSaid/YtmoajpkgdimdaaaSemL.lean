/- From the kit's contract of a call, made alone, to the machine's own run of it: what it lists is known. -/
import Derived.Test.YtmoajpkgdimdaaaSemK
import Derived.Conc.Fork
namespace Go.Proofs.Ytmoajpkgdimdaaa

/-- A frame that ends the run as soon as it is come back to. -/
def c0 : Frame := { fn := 0, tmps := #[], todo := [.code (.refuse "")], defers := [{ target := .nil, args := #[] }], mode := .run, kind := .normal }
section
variable {P : Program} {S : Nat → Bool} {H : Nat → Prop} {fr : Frame} {seg base : List Frame} {w : World}
theorem c0_finish (v : Value) : c0.finish v = c0 := rfl
theorem c0_run (w : World) : ∃ o w', step P (lone c0 [] w) = .ended o w' := ⟨_, _, step_lone_ended (by rfl)⟩
theorem c0_raised (ch : List PanicEntry) (w : World) : ∃ o w', step P (lone (c0.raise ch) [] w) = .ended o w' := ⟨_, _, step_lone_ended (by rfl)⟩
theorem stepG_lone {fr fr' : Frame} {cs cs' : List Frame} {w w' : World} {es : Array Event} (h : stepG P true (Conc.G fr cs) w = .go (Conc.G fr' cs') w' es) : step P (lone fr cs w) = .next (lone fr' cs' w') :=
  step_lone_go (by
    have h' : stepG P true { frame := fr, callers := cs, status := .running, dying := none } w = .go (Conc.G fr' cs') w' es := h
    rw [h']; rfl)
theorem stepG_lone_end {fr : Frame} {cs : List Frame} {w w' : World} {o : Outcome} {es : Array Event} (h : stepG P true (Conc.G fr cs) w = .ended o w' es) : step P (lone fr cs w) = .ended o w' :=
  step_lone_ended (by
    have h' : stepG P true { frame := fr, callers := cs, status := .running, dying := none } w = .ended o w' es := h
    rw [h']; rfl)
theorem runN_ended {m : Machine} {o : Outcome} {w : World} (h : step P m = .ended o w) (n : Nat) {m' : Machine} : runN P (n + 1) m ≠ .next m' := by
  simp [runN, h]
/-- At the border the ghost's run is over. -/
theorem border (hS : SOk P S) (h : gF P S H fr) (hm : fr.mode ≠ .run) {n : Nat} {fr' : Frame} {w' : World} (hr : runN P n (lone fr [c0] w) = .next (lone fr' [c0] w')) : n = 0 := by
  obtain ⟨fn, hfn, -, -⟩ := hS.has fr.fn h.known
  cases n with
  | zero => rfl
  | succ n =>
    exfalso
    obtain ⟨ffn, ftmps, ftodo, fdefers, fmode, fkind, fround⟩ := fr
    obtain rfl : fdefers = [] := h.defers
    obtain rfl : fkind = .normal := h.kind
    have next : ∀ m1, step P (lone { fn := ffn, tmps := ftmps, todo := ftodo, defers := [], mode := fmode, kind := .normal, roundOf := fround } [c0] w) = .next m1 → (∃ o w', step P m1 = .ended o w') → (∀ w2, m1 ≠ lone fr' [c0] w2) → False := fun m1 h1 h2 h3 => by
      rw [show runN P (n + 1) _ = runN P n m1 by simp [runN, h1]] at hr
      cases n with
      | zero => exact h3 w' (by simpa [runN] using hr)
      | succ n =>
        obtain ⟨o, w2, h2⟩ := h2
        exact runN_ended h2 n hr
    have ne : ∀ (f : Frame) (w1 w2 : World), lone f [] w1 ≠ lone fr' [c0] w2 := fun f w1 w2 e => by
      have := congrArg (fun m : Machine => (m.gs[0]?).map (·.callers)) e
      simp [lone] at this
    cases hmm : fmode with
    | run => exact hm hmm
    | returning =>
      subst hmm
      cases hres : (results fn ftmps).runT P w #[] with
      | mk r es =>
        have hfn' : P.funcs[ffn]? = some fn := hfn
        cases r with
        | ok v w1 =>
          have hst : stepG P true (Conc.G { fn := ffn, tmps := ftmps, todo := ftodo, defers := [], mode := .returning, kind := .normal, roundOf := fround } [c0]) w = .go (Conc.G (c0.finish v) []) w1 (seen P ffn es) := by
            unfold Conc.G stepG
            simp only [unwind, hfn', hres, doReturn, GStep.after, Array.append_empty]
          exact next _ (stepG_lone hst) (by rw [c0_finish]; exact c0_run _) (ne _ _)
        | halt hh w1 =>
          have hst : ∃ o w2 es', stepG P true (Conc.G { fn := ffn, tmps := ftmps, todo := ftodo, defers := [], mode := .returning, kind := .normal, roundOf := fround } [c0]) w = .ended o w2 es' := by
            unfold Conc.G stepG
            simp only [unwind, hfn', hres]
            cases hh <;> exact ⟨_, _, _, rfl⟩
          obtain ⟨o, w2, es', hst⟩ := hst
          exact runN_ended (stepG_lone_end hst) n hr
    | panicking ch =>
      subst hmm
      by_cases hc : ({ fn := ffn, tmps := ftmps, todo := ftodo, defers := [], mode := .panicking ch, kind := .normal, roundOf := fround } : Frame).catches P = true
      · have hst : ∃ o w2 es', stepG P true (Conc.G { fn := ffn, tmps := ftmps, todo := ftodo, defers := [], mode := .panicking ch, kind := .normal, roundOf := fround } [c0]) w = .ended o w2 es' := by
          unfold Conc.G stepG
          simp only [unwind, hc, if_true]
          exact ⟨_, _, _, rfl⟩
        obtain ⟨o, w2, es', hst⟩ := hst
        exact runN_ended (stepG_lone_end hst) n hr
      · have hst : stepG P true (Conc.G { fn := ffn, tmps := ftmps, todo := ftodo, defers := [], mode := .panicking ch, kind := .normal, roundOf := fround } [c0]) w = .go (Conc.G (c0.raise ch) []) w := by
          unfold Conc.G stepG
          simp only [unwind, hc, if_false, Bool.false_eq_true]
        exact next _ (stepG_lone hst) (c0_raised _ _) (ne _ _)
/-- What a goroutine's operations are, that are good. -/
def yOps (H : Nat → Prop) (g : Nat) (u : Array MemOp) : Prop := ∀ op ∈ u, op.g = g ∧ ∃ e, yEv H e ∧ op.act = .ofEvent e
theorem yOps.app {g : Nat} {u v : Array MemOp} (h : yOps H g u) (h2 : yOps H g v) : yOps H g (u ++ v) := fun op hop => (Array.mem_append.1 hop).elim (h op) (h2 op)
theorem mem_ofEv {g : Nat} {fn : FuncId} {pos : String} {es : Array Event} {op : MemOp} (h : op ∈ MemOp.ofEvents g fn pos es) : ∃ e ∈ es, op = { g, fn, pos, act := .ofEvent e } := by
  unfold MemOp.ofEvents at h
  split at h
  · simp at h
  · obtain ⟨e, he, rfl⟩ := Array.mem_map.1 h
    exact ⟨e, he, rfl⟩
theorem yOps.of {g : Nat} {fn : FuncId} {pos : String} {es : Array Event} (h : ∀ e ∈ es, yEv H e) : yOps H g (MemOp.ofEvents g fn pos es) := fun op hop => by
  obtain ⟨e, he, rfl⟩ := mem_ofEv hop
  exact ⟨rfl, e, h e he, rfl⟩
theorem app_cancel {s s' : List Frame} {b : List Frame} (h : s ++ b = s' ++ b) : s = s' := List.append_cancel_right h
theorem lone_inj {fr fr' : Frame} {cs cs' : List Frame} {w w' : World} (h : lone fr cs w = lone fr' cs' w') : fr = fr' ∧ cs = cs' ∧ w = w' := by
  have h1 := congrArg (fun m : Machine => m.world) h
  have h2 := congrArg (fun m : Machine => (m.gs[0]?).map (·.callers)) h
  have h3 := congrArg (fun m : Machine => (m.gs[0]?).map (·.frame)) h
  simp [lone] at h1 h2 h3
  exact ⟨h3, h2, h1⟩
/-- The true step that goes with a ghost's. -/
theorem ghost_step (hS : SOk P S) (h : gF P S H fr) (hs : ∀ f ∈ seg, gF P S H f) (hb : fr.mode = .run ∨ seg ≠ []) (hw : yHeap H (sP S) w) {m' : Machine} {n : Nat} (hr : runN P (n + 1) (lone fr (seg ++ [c0]) w) = .next m') :
    ∃ fr1 seg1 w1 es, (∀ cs, stepG P true (Conc.G fr (seg ++ cs)) w = .go (Conc.G fr1 (seg1 ++ cs)) w1 es) ∧ gF P S H fr1 ∧ (∀ f ∈ seg1, gF P S H f) ∧ yStep H (sP S) w w1 ∧ (∀ e ∈ es, yEv H e) ∧ runN P n (lone fr1 (seg1 ++ [c0]) w1) = .next m' := by
  have h1 := step_good (base := [c0]) hS (main := true) h hs hb hw
  cases hst : stepG P true (Conc.G fr (seg ++ [c0])) w with
  | go g' w1 es =>
    rw [hst] at h1
    obtain ⟨⟨fr1, seg1, rfl, hg1, hg2⟩, hy, hev⟩ := h1
    refine ⟨fr1, seg1, w1, es, fun cs => ?_, hg1, hg2, hy, hev, ?_⟩
    · have h2 := step_two (b1 := [c0]) (b2 := cs) hS (main := true) h hb (Same.refl w) hw
      rw [hst] at h2
      obtain ⟨-, htp, h2⟩ := h2
      obtain ⟨fr2, seg2, w2, e1, e2, e3, e4, e5⟩ := h2 (fun _ _ _ => rfl)
      have e1' : (Conc.G fr1 (seg1 ++ [c0])).frame = (Conc.G fr2 (seg2 ++ [c0])).frame := by rw [e1]
      have e1'' : (Conc.G fr1 (seg1 ++ [c0])).callers = (Conc.G fr2 (seg2 ++ [c0])).callers := by rw [e1]
      obtain rfl : fr1 = fr2 := e1'
      obtain rfl : seg1 = seg2 := app_cancel e1''
      have hle := hy.drawn
      have : w2 = w1 := by
        obtain ⟨p1, p2, p3, p4, p5⟩ := w1
        obtain ⟨q1, q2, q3, q4, q5⟩ := w2
        obtain ⟨f1, f2, f3⟩ := e3
        dsimp only at f1 f2 f3 e4 e5 htp hle
        subst f1 f2 f3
        rw [e5, htp, e4]
        congr 1
        omega
      rw [e2, this]
    · rw [show runN P (n + 1) (lone fr (seg ++ [c0]) w) = runN P n (lone fr1 (seg1 ++ [c0]) w1) by simp [runN, stepG_lone hst]] at hr
      exact hr
  | ended o w1 es => exact absurd hr (runN_ended (stepG_lone_end hst) n)
  | _ => rw [hst] at h1; exact h1.elim
theorem lone_traced (hS : SOk P S) : ∀ (n : Nat) (fr : Frame) (seg : List Frame) (w : World), gF P S H fr → (∀ f ∈ seg, gF P S H f) → yHeap H (sP S) w → ∀ (fr' : Frame) (w' : World), runN P n (lone fr (seg ++ [c0]) w) = .next (lone fr' [c0] w') →
    ∀ cs t, ∃ u, runNT P n (Conc.solo (Conc.G fr (seg ++ cs)) w) t = (.next (Conc.solo (Conc.G fr' cs) w'), t ++ u) ∧ yStep H (sP S) w w' ∧ gF P S H fr' ∧ yOps H 0 u := by
  intro n
  induction n with
  | zero =>
    intro fr seg w h hs hw fr' w' hr cs t
    obtain ⟨rfl, h2, rfl⟩ := lone_inj (by simpa [runN] using hr)
    obtain rfl : seg = [] := by simpa using h2
    exact ⟨#[], by simp [runNT], .refl hw, h, fun op hop => by simp at hop⟩
  | succ n ih =>
    intro fr seg w h hs hw fr' w' hr cs t
    by_cases hb : fr.mode = .run ∨ seg ≠ []
    · obtain ⟨fr1, seg1, w1, es, hst, hg1, hg2, hy, hev, hr1⟩ := ghost_step hS h hs hb hw hr
      obtain ⟨u, hu, hy2, hg, hop⟩ := ih fr1 seg1 w1 hg1 hg2 hy.heap fr' w' hr1 cs (t ++ MemOp.ofEvents 0 fr.fn (Conc.G fr (seg ++ cs)).frame.place es)
      refine ⟨MemOp.ofEvents 0 fr.fn (Conc.G fr (seg ++ cs)).frame.place es ++ u, ?_, hy.trans hy2, hg, (yOps.of hev).app hop⟩
      rw [runNT_succ_next ((Conc.stepT_solo rfl).trans (Conc.runT_solo_go (hst cs))), ← Array.append_assoc]
      exact hu
    · have hm : fr.mode ≠ .run := fun e => hb (.inl e)
      obtain rfl : seg = [] := by
        cases seg with
        | nil => rfl
        | cons _ _ => exact absurd (.inr (by simp)) hb
      exact absurd (border hS h hm hr) (by omega)
/-- The last step: the frame is left. -/
theorem leave_step (h : gF P S H fr) (hw : yHeap H (sP S) w) {v : Value} (hl : fr.leaving P w (.returned v)) (main : Bool) (c : Frame) (cs : List Frame) :
    y0 H (sP S) v ∧ ∃ es, (∀ e ∈ es, yEv H e) ∧ stepG P main (Conc.G fr (c :: cs)) w = .go (Conc.G (c.finish v) cs) w es := by
  obtain ⟨hm, hd, hk, fn, hfn, hres⟩ := hl
  have hr := yg_run (yg_results (fn := fn) h) w #[] hw
  obtain ⟨⟨u, hu, hu2⟩, hr2⟩ := hr
  have hfst := Sem.runT_fst P (results fn fr.tmps) w #[]
  rw [hres] at hfst
  rw [hfst] at hr2
  refine ⟨hr2.1, seen P fr.fn ((results fn fr.tmps).runT P w #[]).2, fun e he => ?_, ?_⟩
  · have := mem_seen he
    rw [hu] at this
    exact hu2 e (by simpa using this)
  · generalize hrr : (results fn fr.tmps).runT P w #[] = r at hfst
    obtain ⟨r, es⟩ := r
    dsimp only at hfst
    subst hfst
    obtain ⟨ffn, ftmps, ftodo, fdefers, fmode, fkind, fround⟩ := fr
    obtain rfl : fmode = .returning := hm
    obtain rfl : fdefers = [] := hd
    obtain rfl : fkind = .normal := hk
    have hfn' : P.funcs[ffn]? = some fn := hfn
    have hrr' : (results fn ftmps).runT P w #[] = (.ok v w, es) := hrr
    unfold Conc.G stepG
    simp only [unwind, hfn', hrr', doReturn, GStep.after, Array.append_empty]
/-- ████ A CALL MADE ALONE, WITH WHAT IT LISTS. ████ -/
theorem call_traced (hS : SOk P S) {f : Nat} {args : Array Value} {R : Ending → World → Prop} (hf : S f = true) (ha : ∀ a ∈ args, y0 H (sP S) a) (hw : yHeap H (sP S) w) (hc : Calls P f args w R) (hR : ∀ e w', R e w' → ∃ v, e = .returned v) (c : Frame) (cs : List Frame) (t : Trace) :
    ∃ n v w' u, runNT P n (Conc.solo (Conc.G (Frame.enter P f args .normal) (c :: cs)) w) t = (.next (Conc.solo (Conc.G (c.finish v) cs) w'), t ++ u) ∧ R (.returned v) w' ∧ yStep H (sP S) w w' ∧ yOps H 0 u ∧ y0 H (sP S) v := by
  obtain ⟨e, w', fr', hRe, hcomes, -, hl⟩ := hc [c0]
  obtain ⟨v, rfl⟩ := hR e w' hRe
  obtain ⟨n, hn⟩ : ∃ n, runN P n (lone (Frame.enter P f args .normal) [c0] w) = .next (lone fr' [c0] w') := hcomes
  obtain ⟨u, hu, hy, hg, hop⟩ := lone_traced hS n _ [] w (gF.enter hS hf ha) (by simp) hw fr' w' hn (c :: cs) t
  obtain ⟨hv, es, hev, hst⟩ := leave_step hg hy.heap hl true c cs
  refine ⟨n + 1, v, w', u ++ MemOp.ofEvents 0 fr'.fn (Conc.G fr' (c :: cs)).frame.place es, ?_, hRe, hy, hop.app (yOps.of hev), hv⟩
  rw [runNT_add]
  have hu' : runNT P n (Conc.solo (Conc.G (Frame.enter P f args .normal) (c :: cs)) w) t = (.next (Conc.solo (Conc.G fr' (c :: cs)) w'), t ++ u) := hu
  rw [hu']
  dsimp only
  rw [runNT_succ_next ((Conc.stepT_solo rfl).trans (Conc.runT_solo_go hst)), ← Array.append_assoc]
  rfl
end
end Go.Proofs.Ytmoajpkgdimdaaa
