/- From the kit's contract of a call, made alone, to the call beside goroutines that only leave: they ask the tape between its steps. -/
import Derived.Test.YtmoajpkgdimdaaaSemL
import Derived.Conc.Machine
namespace Go.Proofs.Ytmoajpkgdimdaaa

/-- As the kit's judgement of own steps, beside goroutines that draw from the tape, without a count. -/
inductive GoesW (P : Program) (main : Bool) (D : World → World → Array Event → Prop) (Stop : Goroutine → World → Prop) : Goroutine → World → Prop
  | stop {g : Goroutine} {w : World} : (∀ d, Stop g (w.at d)) → GoesW P main D Stop g w
  | step {g : Goroutine} {w : World} (g' : Nat → Goroutine) (w' : Nat → World) (es : Nat → Array Event) : g.status = .running →
      (∀ d, stepG P main g (w.at d) = .go (g' d) (w' d) (es d) ∧ D (w.at d) (w' d) (es d)) → (∀ d, GoesW P main D Stop (g' d) (w' d)) → GoesW P main D Stop g w
/-- What a good step does to the world, and what it lists. -/
def yD (H : Nat → Prop) (w w' : World) (es : Array Event) : Prop := (∀ b, ¬ H b → w'.heap[b]? = w.heap[b]?) ∧ w'.tape = w.tape ∧ w'.os = w.os ∧ w'.output = w.output ∧ w.heap.size ≤ w'.heap.size ∧ ∀ e ∈ es, yEv H e
theorem GoesW.mk {P : Program} {main : Bool} {D : World → World → Array Event → Prop} {Stop : Goroutine → World → Prop} {g : Goroutine} {w : World} (hg : g.status = .running)
    (h : ∀ d, ∃ g' w' es, stepG P main g (w.at d) = .go g' w' es ∧ D (w.at d) w' es ∧ GoesW P main D Stop g' w') : GoesW P main D Stop g w := by
  have h1 : ∀ d, ∃ x : Goroutine × World × Array Event, stepG P main g (w.at d) = .go x.1 x.2.1 x.2.2 ∧ D (w.at d) x.2.1 x.2.2 ∧ GoesW P main D Stop x.1 x.2.1 := fun d => by
    obtain ⟨a, b, c, h1⟩ := h d
    exact ⟨(a, b, c), h1⟩
  exact .step (fun d => (Classical.choose (h1 d)).1) (fun d => (Classical.choose (h1 d)).2.1) (fun d => (Classical.choose (h1 d)).2.2) hg
    (fun d => ⟨(Classical.choose_spec (h1 d)).1, (Classical.choose_spec (h1 d)).2.1⟩) (fun d => (Classical.choose_spec (h1 d)).2.2)
def wld : GStep → World
  | .go _ w _ => w
  | .ended _ w _ => w
  | _ => default
structure XS where
  fr : Frame
  seg : List Frame
  w : World
section
variable {P : Program} {S : Nat → Bool} {H : Nat → Prop}
theorem at_same (w : World) (d : Nat) : Same w (w.at d) := ⟨rfl, rfl, rfl⟩
theorem yHeap.at {T : Nat → Prop} {w : World} (h : yHeap H T w) (d : Nat) : yHeap H T (w.at d) := ⟨h.size, h.obj⟩
theorem Same.symm {w1 w2 : World} (h : Same w1 w2) : Same w2 w1 := ⟨h.heap.symm, h.os.symm, h.output.symm⟩
theorem Same.trans {w1 w2 w3 : World} (h : Same w1 w2) (h2 : Same w2 w3) : Same w1 w3 := ⟨h.heap.trans h2.heap, h.os.trans h2.os, h.output.trans h2.output⟩
theorem world_eq {w1 w2 : World} (h : Same w1 w2) (hd : w1.drawn = w2.drawn) (ht : w1.tape = w2.tape) : w1 = w2 := by
  obtain ⟨p1, p2, p3, p4, p5⟩ := w1
  obtain ⟨q1, q2, q3, q4, q5⟩ := w2
  obtain ⟨f1, f2, f3⟩ := h
  dsimp only at f1 f2 f3 hd ht
  subst f1 f2 f3 hd ht
  rfl
theorem leaving_same {fr : Frame} (h : gF P S H fr) {w1 w2 : World} (hw : yHeap H (sP S) w1) (hs : Same w1 w2) {v : Value} (hl : fr.leaving P w1 (.returned v)) : fr.leaving P w2 (.returned v) := by
  obtain ⟨hm, hd, hk, fn, hfn, hres⟩ := hl
  refine ⟨hm, hd, hk, fn, hfn, ?_⟩
  obtain ⟨hle, htp, htwo⟩ := run_two (yg_results (fn := fn) h) w1 w2 #[] hs hw
  have f1 := Sem.runT_fst P (results fn fr.tmps) w1 #[]
  have f2 := Sem.runT_fst P (results fn fr.tmps) w2 #[]
  rw [hres] at f1
  rw [f1] at htwo
  rw [← f2]
  obtain ⟨-, e2, e3, e4⟩ := htwo (fun i hi => absurd hi (by simp [resW]))
  cases hr : ((results fn fr.tmps).runT P w2 #[]).1 with
  | halt _ _ => rw [hr] at e2; exact e2.elim
  | ok v2 w2' =>
    rw [hr] at e2 e3 e4
    obtain ⟨rfl, e2⟩ := e2
    have : w2' = w2 := world_eq (e2.symm.trans hs) (by simpa [resW] using e3) e4
    rw [this]
/-- ████ A CALL BESIDE GOROUTINES THAT ONLY LEAVE, out of its contract alone. ████ -/
theorem call_beside (hS : SOk P S) {f : Nat} {args : Array Value} {R : (Nat → Question → Nat) → Ending → World → Prop} {w : World} (hf : S f = true) (ha : ∀ a ∈ args, y0 H (sP S) a) (hw : yHeap H (sP S) w)
    (hc : ∀ τ, Calls P f args { w with tape := τ, drawn := 0 } (R τ)) (hR : ∀ τ e w', R τ e w' → ∃ v, e = .returned v) (c : Frame) (cs : List Frame) :
    GoesW P true (yD H) (fun g w1 => ∃ τ v wg, g = Conc.G (c.finish v) cs ∧ R τ (.returned v) wg ∧ Same wg w1 ∧ y0 H (sP S) v ∧ yHeap H (sP S) w1) (Conc.G (Frame.enter P f args .normal) (c :: cs)) w := by
  apply Classical.byContradiction
  intro hno
  let GW : XS → Prop := fun x => GoesW P true (yD H) (fun g w1 => ∃ τ v wg, g = Conc.G (c.finish v) cs ∧ R τ (.returned v) wg ∧ Same wg w1 ∧ y0 H (sP S) v ∧ yHeap H (sP S) w1) (Conc.G x.fr (x.seg ++ c :: cs)) x.w
  let stp : XS → Nat → GStep := fun x d => stepG P true (Conc.G x.fr (x.seg ++ c :: cs)) (x.w.at d)
  let good : XS → Nat → Prop := fun x d => ∃ (x' : XS) (es : Array Event), stp x d = .go (Conc.G x'.fr (x'.seg ++ c :: cs)) x'.w es ∧ yD H (x.w.at d) x'.w es ∧ GW x'
  let dd : XS → Nat := fun x => by classical exact if h : ∃ d, ¬ good x d then Classical.choose h else 0
  let nxt : XS → XS := fun x => by classical exact if h : ∃ (x' : XS) (es : Array Event), stp x (dd x) = .go (Conc.G x'.fr (x'.seg ++ c :: cs)) x'.w es then Classical.choose h else x
  let seq : Nat → XS := fun n => Nat.rec ⟨Frame.enter P f args .normal, [], w⟩ (fun _ x => nxt x) n
  let con : Nat → Nat := fun n => (wld (stp (seq n) (dd (seq n)))).drawn - dd (seq n)
  let sm : Nat → Nat := fun n => Nat.rec 0 (fun n k => k + con n) n
  have seq0 : seq 0 = ⟨Frame.enter P f args .normal, [], w⟩ := rfl
  have seqS : ∀ n, seq (n + 1) = nxt (seq n) := fun _ => rfl
  have smS : ∀ n, sm (n + 1) = sm n + con n := fun _ => rfl
  have smle : ∀ m n, m ≤ n → sm m ≤ sm n := fun m n h => by
    induction h with
    | refl => exact Nat.le_refl _
    | step _ ih => rw [smS]; omega
  let τ : Nat → Question → Nat := fun k q => by classical exact if h : ∃ n, sm n ≤ k ∧ k < sm (n + 1) then w.tape (dd (seq (Classical.choose h)) + (k - sm (Classical.choose h))) q else 0
  have τat : ∀ n k q, sm n ≤ k → k < sm (n + 1) → τ k q = w.tape (dd (seq n) + (k - sm n)) q := fun n k q h1 h2 => by
    have h : ∃ n, sm n ≤ k ∧ k < sm (n + 1) := ⟨n, h1, h2⟩
    have e : Classical.choose h = n := by
      obtain ⟨g1, g2⟩ := Classical.choose_spec h
      rcases Nat.lt_trichotomy (Classical.choose h) n with hlt | heq | hgt
      · have := smle (Classical.choose h + 1) n (by omega); omega
      · exact heq
      · have := smle (n + 1) (Classical.choose h) (by omega); omega
    have e2 : τ k q = w.tape (dd (seq (Classical.choose h)) + (k - sm (Classical.choose h))) q := dif_pos h
    rw [e2, e]
  obtain ⟨e, w', fr', hRe, hcomes, -, hl⟩ := hc τ [c0]
  obtain ⟨v, rfl⟩ := hR τ e w' hRe
  obtain ⟨N, hN⟩ : ∃ n, runN P n (lone (Frame.enter P f args .normal) [c0] { w with tape := τ, drawn := 0 }) = .next (lone fr' [c0] w') := hcomes
  have claim : ∀ j, j ≤ N → ∃ wg, gF P S H (seq j).fr ∧ (∀ x ∈ (seq j).seg, gF P S H x) ∧ yHeap H (sP S) (seq j).w ∧ (seq j).w.tape = w.tape ∧ ¬ GW (seq j) ∧ Same wg (seq j).w ∧ wg.tape = τ ∧ wg.drawn = sm j ∧
      runN P (N - j) (lone (seq j).fr ((seq j).seg ++ [c0]) wg) = .next (lone fr' [c0] w') := by
    intro j
    induction j with
    | zero => exact fun _ => ⟨{ w with tape := τ, drawn := 0 }, gF.enter hS hf ha, by intro x hx; rw [seq0] at hx; simp at hx, hw, rfl, hno, ⟨rfl, rfl, rfl⟩, rfl, rfl, hN⟩
    | succ j ih =>
      intro hj
      obtain ⟨wg, h1, h2, h3, h4, h5, h6, h7, h8, h9⟩ := ih (by omega)
      have h3g : yHeap H (sP S) wg := h6.symm.young h3
      by_cases hb : (seq j).fr.mode = .run ∨ (seq j).seg ≠ []
      · rw [show N - j = (N - (j + 1)) + 1 by omega] at h9
        obtain ⟨fr1, seg1, w1, es, hst, hg1, hg2, hy, hev, hr1⟩ := ghost_step hS h1 h2 hb h3g h9
        -- not every draw is good
        have hex : ∃ d, ¬ good (seq j) d := by
          apply Classical.byContradiction
          intro hall
          refine h5 (GoesW.mk rfl fun d => ?_)
          obtain ⟨x', es', e1, e2, e3⟩ : good (seq j) d := Classical.byContradiction fun h => hall ⟨d, h⟩
          exact ⟨_, _, _, e1, e2, e3⟩
        have hdd : ¬ good (seq j) (dd (seq j)) := by
          have e : dd (seq j) = Classical.choose hex := dif_pos hex
          rw [e]; exact Classical.choose_spec hex
        have hsg := step_good (base := c :: cs) hS (main := true) h1 h2 hb (h3.at (dd (seq j)))
        have htw := step_two (b1 := c :: cs) (b2 := [c0]) hS (main := true) h1 hb ((at_same _ (dd (seq j))).symm.trans h6.symm) (h3.at (dd (seq j)))
        have hagree : Agree ((seq j).w.at (dd (seq j))) wg (con j) := fun i hi q => by
          show (seq j).w.tape (dd (seq j) + i) q = wg.tape (wg.drawn + i) q
          rw [h4, h7, h8, τat j (sm j + i) q (by omega) (by rw [smS]; omega)]
          congr 1
          omega
        cases hst1 : stp (seq j) (dd (seq j)) with
        | go g1 w1' es1 =>
          have hst1' : stepG P true (Conc.G (seq j).fr ((seq j).seg ++ c :: cs)) ((seq j).w.at (dd (seq j))) = .go g1 w1' es1 := hst1
          have hcon : con j = w1'.drawn - dd (seq j) := by show (wld (stp (seq j) (dd (seq j)))).drawn - _ = _; rw [hst1]; rfl
          rw [hst1'] at hsg htw
          obtain ⟨⟨fr2, seg2, e1, hgd1, hgd2⟩, hyw, hevw⟩ := hsg
          obtain ⟨-, htp, htw⟩ := htw
          obtain ⟨fr3, seg3, w2', e2, e3, e4, e5, e6⟩ := htw (by rw [show ((seq j).w.at (dd (seq j))).drawn = dd (seq j) from rfl, ← hcon]; exact hagree)
          rw [hst [c0]] at e3
          injection e3 with k1 k2 k3
          obtain rfl : fr1 = fr3 := congrArg (·.frame) k1
          obtain rfl : seg1 = seg3 := app_cancel (congrArg (·.callers) k1)
          subst k2 k3
          have hx : ∃ (x' : XS) (es' : Array Event), stp (seq j) (dd (seq j)) = .go (Conc.G x'.fr (x'.seg ++ c :: cs)) x'.w es' := ⟨⟨fr1, seg1, w1'⟩, es, by rw [hst1, e2]⟩
          have hnx : seq (j + 1) = ⟨fr1, seg1, w1'⟩ := by
            rw [seqS]
            have e : nxt (seq j) = Classical.choose hx := dif_pos hx
            rw [e]
            have hspec := Classical.choose_spec hx
            generalize Classical.choose hx = y at hspec ⊢
            obtain ⟨es', he'⟩ := hspec
            rw [hst1, e2] at he'
            obtain ⟨yf, ys, yw⟩ := y
            injection he' with q1 q2 q3
            obtain rfl : fr1 = yf := congrArg (·.frame) q1
            obtain rfl : seg1 = ys := app_cancel (congrArg (·.callers) q1)
            subst q2
            rfl
          refine ⟨w1, ?_⟩
          rw [hnx]
          refine ⟨hg1, hg2, hyw.heap, htp.trans h4, fun hgw => hdd ⟨⟨fr1, seg1, w1'⟩, es, by rw [hst1, e2], ⟨hyw.old, hyw.tape, hyw.os, hyw.output, hyw.size, hevw⟩, hgw⟩, e4.symm, e6.trans h7, ?_, hr1⟩
          rw [e5, h8, smS, hcon]
          rfl
        | ended o w1' es1 =>
          have hst1' : stepG P true (Conc.G (seq j).fr ((seq j).seg ++ c :: cs)) ((seq j).w.at (dd (seq j))) = .ended o w1' es1 := hst1
          have hcon : con j = w1'.drawn - dd (seq j) := by show (wld (stp (seq j) (dd (seq j)))).drawn - _ = _; rw [hst1]; rfl
          rw [hst1'] at htw
          obtain ⟨-, htw⟩ := htw
          obtain ⟨o2, w2, es2, e2⟩ := htw (by rw [show ((seq j).w.at (dd (seq j))).drawn = dd (seq j) from rfl, ← hcon]; exact hagree)
          rw [hst [c0]] at e2
          cases e2
        | _ =>
          have hst1' : stepG P true (Conc.G (seq j).fr ((seq j).seg ++ c :: cs)) ((seq j).w.at (dd (seq j))) = _ := hst1
          rw [hst1'] at hsg
          exact hsg.elim
      · have hm : (seq j).fr.mode ≠ .run := fun e => hb (.inl e)
        have hseg : (seq j).seg = [] := by
          cases hs : (seq j).seg with
          | nil => rfl
          | cons _ _ => exact absurd (.inr (by rw [hs]; simp)) hb
        rw [hseg] at h9
        exact absurd (border hS h1 hm h9) (by omega)
  obtain ⟨wg, h1, h2, h3, h4, h5, h6, h7, h8, h9⟩ := claim N (Nat.le_refl _)
  rw [Nat.sub_self] at h9
  obtain ⟨e1, e2, rfl⟩ := lone_inj (by simpa [runN] using h9)
  have hseg : (seq N).seg = [] := by simpa using e2
  refine h5 (GoesW.mk rfl fun d => ?_)
  have hl' : (seq N).fr.leaving P ((seq N).w.at d) (.returned v) := leaving_same h1 (h6.symm.young h3) (h6.trans (at_same _ d)) (by rw [e1]; exact hl)
  obtain ⟨hv, es, hev, hst⟩ := leave_step h1 (h3.at d) hl' true c cs
  rw [hseg]
  exact ⟨_, _, _, hst, ⟨fun _ _ => rfl, rfl, rfl, rfl, Nat.le_refl _, hev⟩, .stop fun d' => ⟨τ, v, wg, rfl, hRe, h6.trans ⟨rfl, rfl, rfl⟩, hv, (h3.at d).at d'⟩⟩
end
end Go.Proofs.Ytmoajpkgdimdaaa
