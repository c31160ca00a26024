/- Frames whose every operation is tame: a call made alone, out of its contract, with what it lists. -/
import Derived.Test.YtmoajpkgdimdaaaTamB
set_option linter.unusedVariables false
namespace Go.Proofs.Ytmoajpkgdimdaaa

def okCodeT (P : Program) (S : Nat → Bool) : Code → Bool
  | .skip | .label _ | .ret | .exit _ => true
  | .seq a b => okCodeT P S a && okCodeT P S b
  | .cond _ a b => okCodeT P S a && okCodeT P S b
  | .block _ c | .loop c | .scope c => okCodeT P S c
  | .region _ ops _ => ops.all fun o => okT P S o.op
  | _ => false
def okItemT (P : Program) (S : Nat → Bool) : Item → Bool
  | .code c | .inLoop c => okCodeT P S c
  | .inBlock _ => true
  | .inScope c => okCodeT P S c
  | .inRegion ops _ => ops.all fun o => okT P S o.op
  | _ => false
structure TOk (P : Program) (S : Nat → Bool) : Prop where
  has : sOk P S
  code : ∀ k fn c, S k = true → P.funcs[k]? = some fn → fn.body = some c → okCodeT P S c = true
  early : ∀ g, P.stepOf g = none
structure tF (P : Program) (S : Nat → Bool) (fr : Frame) : Prop where
  todo : ∀ it ∈ fr.todo, okItemT P S it = true
  defers : fr.defers = []
  kind : fr.kind = .normal
  round : fr.roundOf = none
  known : S fr.fn = true
section
variable {P : Program} {S : Nat → Bool} {fr : Frame} {seg base : List Frame} {w : World}
theorem tF.todoed (h : tF P S fr) {todo : List Item} (ht : ∀ it ∈ todo, okItemT P S it = true) : tF P S { fr with todo } := ⟨ht, h.defers, h.kind, h.round, h.known⟩
theorem tF.moded (h : tF P S fr) (mode : FrameMode) : tF P S { fr with mode } := ⟨h.todo, h.defers, h.kind, h.round, h.known⟩
theorem tF.raise (h : tF P S fr) (vs : List PanicEntry) : tF P S (fr.raise vs) := by
  unfold Frame.raise
  split <;> exact h.moded _
theorem tF.finish (h : tF P S fr) (v : Value) : tF P S (fr.finish v) := by
  unfold Frame.finish
  split
  · rename_i ops i rest k ht
    refine ⟨?_, h.defers, h.kind, h.round, h.known⟩
    intro it hit
    have hall := h.todo
    rw [ht] at hall
    rcases List.mem_cons.1 hit with rfl | hit
    · exact hall (.inRegion ops (i :: rest)) (List.mem_cons_self ..)
    · exact hall it (List.mem_cons_of_mem _ hit)
  · rename_i l k ht
    exact absurd (h.todo (.inRangeFunc l) (by rw [ht]; exact List.mem_cons_self ..)) Bool.false_ne_true
  · rename_i k ht
    exact absurd (h.todo .beginRound (by rw [ht]; exact List.mem_cons_self ..)) Bool.false_ne_true
  · rename_i d wr r s k ht
    exact absurd (h.todo (.call d wr r s) (by rw [ht]; exact List.mem_cons_self ..)) Bool.false_ne_true
  · rename_i r a k ht
    exact absurd (h.todo (.extern r a) (by rw [ht]; exact List.mem_cons_self ..)) Bool.false_ne_true
  · exact h
theorem tF.enter (hS : TOk P S) {f : Nat} (hf : S f = true) {args : Array Value} : tF P S (Frame.enter P f args .normal) := by
  obtain ⟨fn, h1, h2, -⟩ := hS.has f hf
  obtain ⟨c, hc⟩ : ∃ c, fn.body = some c := by
    cases hb : fn.body with
    | none => rw [hb] at h2; cases h2
    | some c => exact ⟨c, rfl⟩
  refine ⟨fun it hit => ?_, rfl, rfl, rfl, hf⟩
  simp only [Frame.enter, h1, hc, Option.bind_some, Option.getD_some, List.mem_singleton] at hit
  subst hit
  exact hS.code f fn c hf h1 hc
/-- What a step of such frames is, over whatever other frames. -/
def TR (P : Program) (S : Nat → Bool) (f : List Frame → GStep) (base : List Frame) : Prop :=
  (∃ o w es, f base = .ended o w es) ∨ ∃ fr' seg' w' es, (∀ b, f b = .go (Conc.G fr' (seg' ++ b)) w' es) ∧ tF P S fr' ∧ (∀ x ∈ seg', tF P S x) ∧ ∀ e ∈ es, NoM e
theorem TR.go {f : List Frame → GStep} {fr' : Frame} {seg' : List Frame} {w' : World} {es : Array Event} (h : ∀ b, f b = .go (Conc.G fr' (seg' ++ b)) w' es) (h1 : tF P S fr') (h2 : ∀ x ∈ seg', tF P S x) (h3 : ∀ e ∈ es, NoM e) : TR P S f base := .inr ⟨fr', seg', w', es, h, h1, h2, h3⟩
theorem early_none (hI : ∀ g, P.stepOf g = none) (fr : Frame) (g : Nat) (w : World) : (∃ w', ∀ cs dy, early P fr cs dy g w = .go { frame := fr, callers := cs, status := .running, dying := dy } w') ∨ ∀ cs dy, ∃ o w' es, early P fr cs dy g w = .ended o w' es := by
  unfold early
  dsimp only
  rw [hI]
  by_cases h : (!P.follows .staticDataAhead) = true
  · simp only [h, if_true]
    cases hg : w.heap[g]? with
    | none => exact .inr fun cs dy => ⟨_, _, _, rfl⟩
    | some o =>
      cases o
      case pending c elem => exact .inl ⟨_, fun cs dy => rfl⟩
      all_goals exact .inr fun cs dy => ⟨_, _, _, rfl⟩
  · simp only [h]
    exact .inr fun cs dy => ⟨_, _, _, rfl⟩
theorem apply_tam (hS : TOk P S) (h : tF P S fr) (hs : ∀ f ∈ seg, tF P S f) {ops : Array Oper} {i : Nat} {rest : List Nat} {k : List Item} (ht : fr.todo = .inRegion ops (i :: rest) :: k) {s : Sem Next} (hy : tg P (tN S) s) :
    TR P S (fun b => stepG.apply P true fr (seg ++ b) none s w) base := by
  have hr := tg_run hy w #[]
  obtain ⟨⟨u, hu, hu2⟩, hr2⟩ := hr
  have hes : ∀ e ∈ (s.runT P w #[]).2, NoM e := by rw [hu]; simpa using hu2
  unfold stepG.apply
  simp only [if_true, ht, h.kind]
  generalize hrr : s.runT P w #[] = r at hr2 hes
  obtain ⟨r, es⟩ := r
  dsimp only at hr2 hes ⊢
  have hk : (CallKind.normal == CallKind.early) = false := rfl
  have hes' : ∀ e ∈ seen P fr.fn es, NoM e := fun e he => hes e (mem_seen he)
  cases r with
  | ok n w' =>
    cases n with
    | value v =>
      simp only [hk, Bool.false_eq_true, if_false, GStep.after, Array.append_empty]
      exact TR.go (fun b => rfl) (h.finish v) hs hes'
    | skip =>
      simp only [hk, Bool.false_eq_true, if_false, GStep.after, Array.append_empty]
      exact TR.go (fun b => rfl) (h.finish undef) hs hes'
    | enter f args =>
      simp only [hk, Bool.false_eq_true, if_false, GStep.after, Array.append_empty]
      exact TR.go (seg' := fr :: seg) (fun b => rfl) (tF.enter hS hr2) (by
        intro f' hf'
        rcases List.mem_cons.1 hf' with rfl | hf'
        · exact h
        · exact hs f' hf') hes'
    | _ => exact hr2.elim
  | halt hh w' =>
    cases hh with
    | panic v =>
      simp only [hk, Bool.false_eq_true, if_false, GStep.after, Array.append_empty]
      exact TR.go (fun b => rfl) (h.raise _) hs hes'
    | stuck m => exact .inl ⟨_, _, _, rfl⟩
    | unsupported u =>
      cases u
      case initOrder g =>
        simp only [hk, Bool.false_eq_true, if_false]
        rcases early_none hS.early fr g w' with ⟨w2, e⟩ | e
        · refine TR.go (fr' := fr) (seg' := seg) (w' := w2) (es := seen P fr.fn #[]) (fun b => ?_) h hs (by rw [Conc.seen_none]; simp)
          simp only [e, GStep.after, Array.append_empty]
          rfl
        · obtain ⟨o, w2, es2, e⟩ := e (seg ++ base) none
          exact .inl ⟨o, w2, seen P fr.fn #[] ++ es2, by simp only [e, GStep.after]⟩
      all_goals exact .inl ⟨_, _, _, rfl⟩
    | _ => exact hr2.elim
theorem tg_mapMT {γ δ : Type} (f : γ → Sem δ) (h : ∀ x, tg P yT (f x)) (xs : Array γ) : tg P yT (xs.mapM f) := tg_mapM f h xs
theorem tg_results {fn : Func} {ts : Array Value} : tg P yT (results fn ts) := by
  unfold results
  refine tg_bindT (tg_mapM _ (fun r => ?_) _) fun vs => trivial
  cases r with
  | tmp t => exact trivial
  | cell a t =>
    refine tg_bindT ?_ fun ad => tg_loadVar
    unfold asAddr
    split
    · trivial
    · exact tg_runtimePanicN
    · trivial
/-- ████ A STEP OF TAME FRAMES. ████ -/
theorem step_tam (hS : TOk P S) (h : tF P S fr) (hs : ∀ f ∈ seg, tF P S f) (hb : fr.mode = .run ∨ seg ≠ []) : TR P S (fun b => stepG P true (Conc.G fr (seg ++ b)) w) base := by
  obtain ⟨fn, hfn, -, -⟩ := hS.has fr.fn h.known
  have stay : ∀ todo : List Item, (∀ it ∈ todo, okItemT P S it = true) → TR P S (fun b => .go (Conc.G { fr with todo } (seg ++ b)) w) base := fun todo ht => TR.go (fun b => rfl) (h.todoed ht) hs (by simp)
  have leave : TR P S (fun b => .go (Conc.G { fr with mode := .returning } (seg ++ b)) w) base := TR.go (fun b => rfl) (h.moded _) hs (by simp)
  have lost : ∀ {f : List Frame → GStep} {o : Outcome} {w' : World} {es : Array Event}, f base = .ended o w' es → TR P S f base := fun e => .inl ⟨_, _, _, e⟩
  cases hm : fr.mode with
  | run =>
    obtain ⟨ffn, ftmps, ftodo, fdefers, fmode, fkind, fround⟩ := fr
    obtain rfl : fmode = .run := hm
    obtain rfl : fround = none := h.round
    have hall := h.todo
    dsimp only at hall
    cases ftodo with
    | nil => exact leave
    | cons it k =>
      have hit := hall it (List.mem_cons_self ..)
      have hk : ∀ x ∈ k, okItemT P S x = true := fun x hx => hall x (List.mem_cons_of_mem _ hx)
      cases it with
      | code c =>
        cases c with
        | skip => exact stay k hk
        | label l => exact stay k hk
        | seq a b =>
          simp only [okItemT, okCodeT, Bool.and_eq_true] at hit
          refine stay _ fun x hx => ?_
          rcases List.mem_cons.1 hx with rfl | hx
          · exact hit.1
          · rcases List.mem_cons.1 hx with rfl | hx
            · exact hit.2
            · exact hk x hx
        | cond c a b =>
          simp only [okItemT, okCodeT, Bool.and_eq_true] at hit
          unfold Conc.G stepG
          simp only [stepG.exec]
          generalize Frame.eval _ c = v
          cases v with
          | bool q =>
            refine stay _ fun x hx => ?_
            rcases List.mem_cons.1 hx with rfl | hx
            · cases q
              · exact hit.2
              · exact hit.1
            · exact hk x hx
          | _ => exact lost rfl
        | block id c =>
          refine stay _ fun x hx => ?_
          rcases List.mem_cons.1 hx with rfl | hx
          · exact hit
          · rcases List.mem_cons.1 hx with rfl | hx
            · rfl
            · exact hk x hx
        | loop c =>
          refine stay _ fun x hx => ?_
          rcases List.mem_cons.1 hx with rfl | hx
          · exact hit
          · rcases List.mem_cons.1 hx with rfl | hx
            · exact hit
            · exact hk x hx
        | scope c =>
          refine stay _ fun x hx => ?_
          rcases List.mem_cons.1 hx with rfl | hx
          · exact hit
          · rcases List.mem_cons.1 hx with rfl | hx
            · exact hit
            · exact hk x hx
        | exit id =>
          unfold Conc.G stepG
          simp only [stepG.exec]
          cases he : exitTo id k with
          | none => exact lost rfl
          | some k' => exact stay k' fun x hx => hk x (exitTo_sub he x hx)
        | ret => exact leave
        | region id ops draw =>
          cases draw with
          | false =>
            refine stay _ fun x hx => ?_
            rcases List.mem_cons.1 hx with rfl | hx
            · exact hit
            · exact hk x hx
          | true =>
            refine TR.go (w' := { w with drawn := w.drawn + 1 }) (fr' := { fn := ffn, tmps := ftmps, todo := .inRegion ops (Region.schedule (P.follows .mixedOrders) ops (w.tape w.drawn (.order ffn id))) :: k, defers := fdefers, mode := .run, kind := fkind, roundOf := none }) (seg' := seg) (es := #[]) (fun b => rfl) (h.todoed fun x hx => ?_) hs (by simp)
            rcases List.mem_cons.1 hx with rfl | hx
            · exact hit
            · exact hk x hx
        | _ => exact absurd hit Bool.false_ne_true
      | inBlock id => exact stay k hk
      | inScope c => exact stay k hk
      | inLoop c =>
        refine stay _ fun x hx => ?_
        rcases List.mem_cons.1 hx with rfl | hx
        · exact hit
        · rcases List.mem_cons.1 hx with rfl | hx
          · exact hit
          · exact hk x hx
      | inRegion ops is =>
        cases is with
        | nil => exact stay k hk
        | cons i rest =>
          unfold Conc.G stepG
          simp only [stepG.exec]
          split
          · rename_i hwant
            cases ho : ops[i]? with
            | none => rw [ho] at hwant; simp at hwant
            | some o =>
              have hoo : okT P S o.op = true := by
                have : ops.all (fun o => okT P S o.op) = true := hit
                rw [Array.all_eq_true_iff_forall_mem] at this
                exact this o (Array.mem_of_getElem? ho)
              have key := apply_tam (base := base) (w := w) hS h hs (ops := ops) (i := i) (rest := rest) (k := k) rfl (okT_sound (ρ := Frame.eval { fn := ffn, tmps := ftmps, todo := .inRegion ops (i :: rest) :: k, defers := fdefers, mode := .run, kind := fkind, roundOf := none }) hS.has hoo (fun f => rfl))
              simp only [stepG.oper, Frame.oper?, ho]
              exact key
          · exact TR.go (fun b => rfl) (h.finish undef) hs (by simp)
      | _ => exact absurd hit Bool.false_ne_true
  | returning =>
    cases seg with
    | nil => rcases hb with hb | hb
             · rw [hm] at hb; cases hb
             · exact absurd rfl hb
    | cons c seg =>
      have hr := tg_run (tg_results (P := P) (fn := fn) (ts := fr.tmps)) w #[]
      obtain ⟨⟨u, hu, hu2⟩, hr2⟩ := hr
      have hes : ∀ e ∈ seen P fr.fn ((results fn fr.tmps).runT P w #[]).2, NoM e := fun e he => by
        have := mem_seen he
        rw [hu] at this
        exact hu2 e (by simpa using this)
      obtain ⟨ffn, ftmps, ftodo, fdefers, fmode, fkind, fround⟩ := fr
      obtain rfl : fmode = .returning := hm
      obtain rfl : fdefers = [] := h.defers
      obtain rfl : fkind = .normal := h.kind
      unfold Conc.G stepG
      simp only [unwind, hfn]
      dsimp only at hfn hr2 hes
      generalize hrr : (results fn ftmps).runT P w #[] = r at hr2 hes
      obtain ⟨r, es⟩ := r
      cases r with
      | ok v w' =>
        simp only [doReturn, GStep.after, Array.append_empty, List.cons_append]
        exact TR.go (fun b => rfl) ((hs c (List.mem_cons_self ..)).finish v) (fun f hf => hs f (List.mem_cons_of_mem _ hf)) hes
      | halt hh w' =>
        cases hh <;> exact lost rfl
  | panicking ch =>
    cases seg with
    | nil => rcases hb with hb | hb
             · rw [hm] at hb; cases hb
             · exact absurd rfl hb
    | cons c seg =>
      obtain ⟨ffn, ftmps, ftodo, fdefers, fmode, fkind, fround⟩ := fr
      obtain rfl : fmode = .panicking ch := hm
      obtain rfl : fdefers = [] := h.defers
      unfold Conc.G stepG
      simp only [unwind, List.cons_append]
      split
      · exact lost rfl
      · exact TR.go (fun b => rfl) ((hs c (List.mem_cons_self ..)).raise ch) (fun f hf => hs f (List.mem_cons_of_mem _ hf)) (by simp)
/-- At the border the ghost's run is over. -/
theorem borderT (hS : TOk P S) (h : tF P S fr) (hm : fr.mode ≠ .run) {n : Nat} {fr' : Frame} {w' : World} (hr : runN P n (lone fr [c0] w) = .next (lone fr' [c0] w')) : n = 0 := by
  obtain ⟨fn, hfn, -, -⟩ := hS.has fr.fn h.known
  cases n with
  | zero => rfl
  | succ n =>
    exfalso
    obtain ⟨ffn, ftmps, ftodo, fdefers, fmode, fkind, fround⟩ := fr
    obtain rfl : fdefers = [] := h.defers
    obtain rfl : fkind = .normal := h.kind
    have next : ∀ m1, step P (lone { fn := ffn, tmps := ftmps, todo := ftodo, defers := [], mode := fmode, kind := .normal, roundOf := fround } [c0] w) = .next m1 → (∃ o w', step P m1 = .ended o w') → (∀ w2, m1 ≠ lone fr' [c0] w2) → False := fun m1 h1 h2 h3 => by
      rw [show runN P (n + 1) _ = runN P n m1 by simp [runN, h1]] at hr
      cases n with
      | zero => exact h3 w' (by simpa [runN] using hr)
      | succ n =>
        obtain ⟨o, w2, h2⟩ := h2
        exact runN_ended h2 n hr
    have ne : ∀ (f : Frame) (w1 w2 : World), lone f [] w1 ≠ lone fr' [c0] w2 := fun f w1 w2 e => by
      have := congrArg (fun m : Machine => (m.gs[0]?).map (·.callers)) e
      simp [lone] at this
    cases hmm : fmode with
    | run => exact hm hmm
    | returning =>
      subst hmm
      cases hres : (results fn ftmps).runT P w #[] with
      | mk r es =>
        have hfn' : P.funcs[ffn]? = some fn := hfn
        cases r with
        | ok v w1 =>
          have hst : stepG P true (Conc.G { fn := ffn, tmps := ftmps, todo := ftodo, defers := [], mode := .returning, kind := .normal, roundOf := fround } [c0]) w = .go (Conc.G (c0.finish v) []) w1 (seen P ffn es) := by
            unfold Conc.G stepG
            simp only [unwind, hfn', hres, doReturn, GStep.after, Array.append_empty]
          exact next _ (stepG_lone hst) (by rw [c0_finish]; exact c0_run _) (ne _ _)
        | halt hh w1 =>
          have hst : ∃ o w2 es', stepG P true (Conc.G { fn := ffn, tmps := ftmps, todo := ftodo, defers := [], mode := .returning, kind := .normal, roundOf := fround } [c0]) w = .ended o w2 es' := by
            unfold Conc.G stepG
            simp only [unwind, hfn', hres]
            cases hh <;> exact ⟨_, _, _, rfl⟩
          obtain ⟨o, w2, es', hst⟩ := hst
          exact runN_ended (stepG_lone_end hst) n hr
    | panicking ch =>
      subst hmm
      by_cases hc : ({ fn := ffn, tmps := ftmps, todo := ftodo, defers := [], mode := .panicking ch, kind := .normal, roundOf := fround } : Frame).catches P = true
      · have hst : ∃ o w2 es', stepG P true (Conc.G { fn := ffn, tmps := ftmps, todo := ftodo, defers := [], mode := .panicking ch, kind := .normal, roundOf := fround } [c0]) w = .ended o w2 es' := by
          unfold Conc.G stepG
          simp only [unwind, hc, if_true]
          exact ⟨_, _, _, rfl⟩
        obtain ⟨o, w2, es', hst⟩ := hst
        exact runN_ended (stepG_lone_end hst) n hr
      · have hst : stepG P true (Conc.G { fn := ffn, tmps := ftmps, todo := ftodo, defers := [], mode := .panicking ch, kind := .normal, roundOf := fround } [c0]) w = .go (Conc.G (c0.raise ch) []) w := by
          unfold Conc.G stepG
          simp only [unwind, hc, if_false, Bool.false_eq_true]
        exact next _ (stepG_lone hst) (c0_raised _ _) (ne _ _)
def nOps (u : Array MemOp) : Prop := ∀ op ∈ u, op.g = 0 ∧ ∃ e, NoM e ∧ op.act = .ofEvent e
theorem nOps.app {u v : Array MemOp} (h : nOps u) (h2 : nOps v) : nOps (u ++ v) := fun op hop => (Array.mem_append.1 hop).elim (h op) (h2 op)
theorem nOps.of {fn : FuncId} {pos : String} {es : Array Event} (h : ∀ e ∈ es, NoM e) : nOps (MemOp.ofEvents 0 fn pos es) := fun op hop => by
  obtain ⟨e, he, rfl⟩ := mem_ofEv hop
  exact ⟨rfl, e, h e he, rfl⟩
theorem tam_traced (hS : TOk P S) : ∀ (n : Nat) (fr : Frame) (seg : List Frame) (w : World), tF P S fr → (∀ f ∈ seg, tF P S f) → ∀ (fr' : Frame) (w' : World), runN P n (lone fr (seg ++ [c0]) w) = .next (lone fr' [c0] w') →
    ∀ cs t, ∃ u, runNT P n (Conc.solo (Conc.G fr (seg ++ cs)) w) t = (.next (Conc.solo (Conc.G fr' cs) w'), t ++ u) ∧ tF P S fr' ∧ nOps u := by
  intro n
  induction n with
  | zero =>
    intro fr seg w h hs fr' w' hr cs t
    obtain ⟨rfl, h2, rfl⟩ := lone_inj (by simpa [runN] using hr)
    obtain rfl : seg = [] := by simpa using h2
    exact ⟨#[], by simp [runNT], h, fun op hop => by simp at hop⟩
  | succ n ih =>
    intro fr seg w h hs fr' w' hr cs t
    by_cases hb : fr.mode = .run ∨ seg ≠ []
    · rcases step_tam (w := w) (base := [c0]) hS h hs hb with ⟨o, w2, es, e⟩ | ⟨fr1, seg1, w1, es, hst, hg1, hg2, hev⟩
      · exact absurd hr (runN_ended (stepG_lone_end e) n)
      · have hst0 := hst [c0]
        have hr1 : runN P n (lone fr1 (seg1 ++ [c0]) w1) = .next (lone fr' [c0] w') := by
          rw [show runN P (n + 1) (lone fr (seg ++ [c0]) w) = runN P n (lone fr1 (seg1 ++ [c0]) w1) by simp [runN, stepG_lone hst0]] at hr
          exact hr
        obtain ⟨u, hu, hg, hop⟩ := ih fr1 seg1 w1 hg1 hg2 fr' w' hr1 cs (t ++ MemOp.ofEvents 0 fr.fn (Conc.G fr (seg ++ cs)).frame.place es)
        refine ⟨MemOp.ofEvents 0 fr.fn (Conc.G fr (seg ++ cs)).frame.place es ++ u, ?_, hg, (nOps.of hev).app hop⟩
        rw [runNT_succ_next ((Conc.stepT_solo rfl).trans (Conc.runT_solo_go (hst cs))), ← Array.append_assoc]
        exact hu
    · have hm : fr.mode ≠ .run := fun e => hb (.inl e)
      obtain rfl : seg = [] := by
        cases seg with
        | nil => rfl
        | cons _ _ => exact absurd (.inr (by simp)) hb
      exact absurd (borderT hS h hm hr) (by omega)
theorem tam_leave (h : tF P S fr) {v : Value} (hl : fr.leaving P w (.returned v)) (main : Bool) (c : Frame) (cs : List Frame) :
    ∃ es, (∀ e ∈ es, NoM e) ∧ stepG P main (Conc.G fr (c :: cs)) w = .go (Conc.G (c.finish v) cs) w es := by
  obtain ⟨hm, hd, hk, fn, hfn, hres⟩ := hl
  obtain ⟨⟨u, hu, hu2⟩, -⟩ := tg_run (tg_results (P := P) (fn := fn) (ts := fr.tmps)) w #[]
  have hfst := Sem.runT_fst P (results fn fr.tmps) w #[]
  rw [hres] at hfst
  refine ⟨seen P fr.fn ((results fn fr.tmps).runT P w #[]).2, fun e he => ?_, ?_⟩
  · have := mem_seen he
    rw [hu] at this
    exact hu2 e (by simpa using this)
  · generalize hrr : (results fn fr.tmps).runT P w #[] = r at hfst
    obtain ⟨r, es⟩ := r
    dsimp only at hfst
    subst hfst
    obtain ⟨ffn, ftmps, ftodo, fdefers, fmode, fkind, fround⟩ := fr
    obtain rfl : fmode = .returning := hm
    obtain rfl : fdefers = [] := hd
    obtain rfl : fkind = .normal := hk
    have hfn' : P.funcs[ffn]? = some fn := hfn
    have hrr' : (results fn ftmps).runT P w #[] = (.ok v w, es) := hrr
    unfold Conc.G stepG
    simp only [unwind, hfn', hrr', doReturn, GStep.after, Array.append_empty]
open Go.Conc Go.ConcN
/-- ████ A TAME CALL, out of its contract alone. ████ -/
theorem eTame {Post : Value → World → Prop} {d : Nat} (hS : TOk P S) {b : Frame} {a : Act} {k : List Item} {cs : List Frame} {ops : Array Oper} {i : Nat} {rest : List Nat} {o : Oper} {f : Nat} {os : Array Operand} {ats : Array TypeId} {args : Array Value} {R : Ending → World → Prop} (ho : ops[i]? = some o) (hw : Region.wanted o (yielded ops a.tmps) = true) (hk : b.kind ≠ .early)
    (hop : o.op = .call { callee := .value (.func f), args := os, argTypes := ats }) (hos : os.map a.eval = args) (hf : S f = true) (hc : Calls P f args w R) (hR : ∀ e w', R e w' → ∃ v, e = .returned v)
    (next : ∀ v w', R (.returned v) w' → E P Post d (Conc.G (b.at (a.put o.dst v) (.inRegion ops rest :: k)) cs) w') : E P Post d (Conc.G (b.at a (.inRegion ops (i :: rest) :: k)) cs) w := by
  obtain ⟨fn, hfn, hbody, hname⟩ := hS.has f hf
  subst hos
  refine eS (g' := Conc.G (Frame.enter P f (os.map a.eval) .normal) (b.at a (.inRegion ops (i :: rest) :: k) :: cs)) rfl (stepG_callE w ho hw hk hop hfn hname hbody) ?_
  intro t ht
  obtain ⟨e, w', fr', hRe, hcomes, -, hl⟩ := hc [c0]
  obtain ⟨v, rfl⟩ := hR e w' hRe
  obtain ⟨n, hn⟩ : ∃ n, runN P n (lone (Frame.enter P f (os.map a.eval) .normal) [c0] w) = .next (lone fr' [c0] w') := hcomes
  obtain ⟨u, hu, hg, hop'⟩ := tam_traced hS n _ [] w (tF.enter hS hf) (by simp) fr' w' hn (b.at a (.inRegion ops (i :: rest) :: k) :: cs) t
  obtain ⟨es, hev, hst⟩ := tam_leave hg hl true (b.at a (.inRegion ops (i :: rest) :: k)) cs
  have hfin : (b.at a (.inRegion ops (i :: rest) :: k)).finish v = b.at (a.put o.dst v) (.inRegion ops rest :: k) := by rw [Frame.finish_at, ho]; rfl
  rw [hfin] at hst
  exact EndsGood.after hu (E.step rfl hst hev (next v w' hRe) _ (ht.app hop'))
end
/-! ### the functions that draw -/
def LT : List Nat := [5, 11, 14, 29, 30, 35, 56]
def ST (k : Nat) : Bool := LT.contains k
def fnOkT (P : Program) (S : Nat → Bool) (k : Nat) : Bool := match P.funcs[k]? with
  | some fn => !fn.body.isNone && !(fn.name == "runtime.NumGoroutine") && (match fn.body with | some c => okCodeT P S c | none => false)
  | none => false
theorem tok_all : LT.all (fnOkT Try.prog ST) = true := by kernel_rfl
theorem tok_early : Try.prog.funcs.all (fun f => (f.body.map readies).all (·.isEmpty)) = true := by kernel_rfl
theorem tok : TOk Try.prog ST := by
  have h : ∀ k, ST k = true → fnOkT Try.prog ST k = true := fun k hk => List.all_eq_true.1 tok_all k (by simpa [ST] using hk)
  have h2 := tok_early
  generalize Try.prog = P at h h2 ⊢
  refine ⟨fun k hk => ?_, fun k fn c hk hf hb => ?_, fun g => ?_⟩
  · have := h k hk
    unfold fnOkT at this
    split at this
    · rename_i fn hf
      simp only [Bool.and_eq_true, Bool.not_eq_true'] at this
      exact ⟨fn, hf, this.1.1, this.1.2⟩
    · cases this
  · have := h k hk
    unfold fnOkT at this
    rw [hf] at this
    simp only [hb, Bool.and_eq_true] at this
    exact this.2
  · unfold Program.stepOf
    rw [Array.findIdx?_eq_none_iff]
    intro f hf
    rw [Array.all_eq_true_iff_forall_mem] at h2
    have h3 := h2 f hf
    cases hb : f.body with
    | none => rfl
    | some c =>
      rw [hb] at h3
      have : readies c = [] := by simpa using h3
      simp [this]
end Go.Proofs.Ytmoajpkgdimdaaa
