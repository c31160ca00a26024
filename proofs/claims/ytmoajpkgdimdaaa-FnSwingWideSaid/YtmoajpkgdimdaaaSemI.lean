/- Frames whose every operation is good: a step of the machine keeps them so, touches what is young alone, and says no mark of the race detector's. -/
import Derived.Test.YtmoajpkgdimdaaaSemH
namespace Go.Proofs.Ytmoajpkgdimdaaa

def okCode (P : Program) (S : Nat → Bool) : Code → Bool
  | .skip | .label _ | .ret | .exit _ => true
  | .seq a b => okCode P S a && okCode P S b
  | .cond _ a b => okCode P S a && okCode P S b
  | .block _ c | .loop c | .scope c => okCode P S c
  | .region _ ops _ => ops.all fun o => okOp P S o.op
  | _ => false
def okItem (P : Program) (S : Nat → Bool) : Item → Bool
  | .code c | .inLoop c => okCode P S c
  | .inBlock _ => true
  | .inScope c => okCode P S c
  | .inRegion ops _ => ops.all fun o => okOp P S o.op
  | _ => false
/-- What is asked of a set of functions. -/
structure SOk (P : Program) (S : Nat → Bool) : Prop where
  has : sOk P S
  code : ∀ k fn c, S k = true → P.funcs[k]? = some fn → fn.body = some c → okCode P S c = true
structure gF (P : Program) (S : Nat → Bool) (H : Nat → Prop) (fr : Frame) : Prop where
  todo : ∀ it ∈ fr.todo, okItem P S it = true
  defers : fr.defers = []
  kind : fr.kind = .normal
  round : fr.roundOf = none
  tmps : ∀ v ∈ fr.tmps, y0 H (sP S) v
  known : S fr.fn = true

section
variable {P : Program} {S : Nat → Bool} {H : Nat → Prop} {fr : Frame} {seg base : List Frame} {w : World}
theorem y0_undef : y0 H (sP S) undef := y0_tuple.2 (by simp)
theorem gF.reads (h : gF P S H fr) : yR H S fr.eval := by
  refine ⟨fun t => ?_, fun _ => rfl, fun _ => rfl⟩
  show yV H (sP S) (fr.tmps.getD t undef)
  rw [Array.getD_eq_getD_getElem?]
  cases ht : fr.tmps[t]? with
  | none => exact y0_undef
  | some v => exact h.tmps v (Array.mem_of_getElem? ht)
theorem gF.todoed (h : gF P S H fr) {todo : List Item} (ht : ∀ it ∈ todo, okItem P S it = true) : gF P S H { fr with todo } := ⟨ht, h.defers, h.kind, h.round, h.tmps, h.known⟩
theorem gF.moded (h : gF P S H fr) (mode : FrameMode) : gF P S H { fr with mode } := ⟨h.todo, h.defers, h.kind, h.round, h.tmps, h.known⟩
theorem gF.raise (h : gF P S H fr) (vs : List PanicEntry) : gF P S H (fr.raise vs) := by
  unfold Frame.raise
  split <;> exact h.moded _
theorem gF.finish (h : gF P S H fr) {v : Value} (hv : y0 H (sP S) v) : gF P S H (fr.finish v) := by
  unfold Frame.finish
  split
  · rename_i ops i rest k ht
    refine ⟨?_, h.defers, h.kind, h.round, ?_, h.known⟩
    · intro it hit
      have hall := h.todo
      rw [ht] at hall
      rcases List.mem_cons.1 hit with rfl | hit
      · exact hall (.inRegion ops (i :: rest)) (List.mem_cons_self ..)
      · exact hall it (List.mem_cons_of_mem _ hit)
    · intro x hx
      dsimp only at hx
      split at hx
      · rcases Array.mem_or_eq_of_mem_setIfInBounds hx with h1 | rfl
        · exact h.tmps x h1
        · exact hv
      · exact h.tmps x hx
  · rename_i l k ht
    exact absurd (h.todo (.inRangeFunc l) (by rw [ht]; exact List.mem_cons_self ..)) Bool.false_ne_true
  · rename_i k ht
    exact absurd (h.todo .beginRound (by rw [ht]; exact List.mem_cons_self ..)) Bool.false_ne_true
  · rename_i d wr r s k ht
    exact absurd (h.todo (.call d wr r s) (by rw [ht]; exact List.mem_cons_self ..)) Bool.false_ne_true
  · rename_i r a k ht
    exact absurd (h.todo (.extern r a) (by rw [ht]; exact List.mem_cons_self ..)) Bool.false_ne_true
  · exact h
theorem gF.enter (hS : SOk P S) {f : Nat} (hf : S f = true) {args : Array Value} (ha : ∀ a ∈ args, y0 H (sP S) a) : gF P S H (Frame.enter P f args .normal) := by
  obtain ⟨fn, h1, h2, -⟩ := hS.has f hf
  obtain ⟨c, hc⟩ : ∃ c, fn.body = some c := by
    cases hb : fn.body with
    | none => rw [hb] at h2; cases h2
    | some c => exact ⟨c, rfl⟩
  refine ⟨fun it hit => ?_, rfl, rfl, rfl, fun v hv => ?_, hf⟩
  · simp only [Frame.enter, h1, hc, Option.bind_some, Option.getD_some, List.mem_singleton] at hit
    subst hit
    exact hS.code f fn c hf h1 hc
  · simp only [Frame.enter] at hv
    rcases Array.mem_append.1 hv with h | h
    · exact ha v h
    · rw [(Array.mem_replicate.1 h).2]; exact y0_undef
/-- What a step of such frames is. -/
def Stays (P : Program) (S : Nat → Bool) (H : Nat → Prop) (base : List Frame) (w : World) : GStep → Prop
  | .go g' w' es => (∃ fr' seg', g' = Conc.G fr' (seg' ++ base) ∧ gF P S H fr' ∧ ∀ f ∈ seg', gF P S H f) ∧ yStep H (sP S) w w' ∧ ∀ e ∈ es, yEv H e
  | .ended _ _ _ => True
  | _ => False
theorem Stays.go {fr' : Frame} {seg' : List Frame} {w' : World} {es : Array Event} (h1 : gF P S H fr') (h2 : ∀ f ∈ seg', gF P S H f) (h3 : yStep H (sP S) w w') (h4 : ∀ e ∈ es, yEv H e) : Stays P S H base w (.go (Conc.G fr' (seg' ++ base)) w' es) := ⟨⟨fr', seg', rfl, h1, h2⟩, h3, h4⟩
theorem mem_seen {fn : FuncId} {es : Array Event} {e : Event} (h : e ∈ seen P fn es) : e ∈ es := by
  unfold seen at h
  dsimp only at h
  revert h
  refine Array.foldl_induction (motive := fun _ (x : Bool × Array Event) => e ∈ x.2 → e ∈ es) ?_ ?_
  · intro h; simp at h
  · rintro i ⟨q, kept⟩ ih h
    dsimp only at h
    split at h
    · exact ih h
    · dsimp only at h
      split at h
      · exact ih h
      · rcases Array.mem_push.1 h with h | rfl
        · exact ih h
        · exact Array.getElem_mem _
theorem exitTo_sub {id : Nat} {k k' : List Item} (h : exitTo id k = some k') : ∀ it ∈ k', it ∈ k := by
  induction k with
  | nil => cases h
  | cons x k ih =>
    intro it hit
    cases x with
    | inBlock j =>
      simp only [exitTo] at h
      split at h
      · cases h; exact List.mem_cons_of_mem _ hit
      · exact List.mem_cons_of_mem _ (ih h it hit)
    | _ => exact List.mem_cons_of_mem _ (ih h it hit)
theorem yg_mapMQ {T : Nat → Prop} {γ δ : Type} {Q : δ → Prop} (f : γ → Sem δ) (h : ∀ x, yg H T P Q (f x)) (xs : Array γ) : yg H T P (fun r => ∀ v ∈ r, Q v) (xs.mapM f) := by
  rw [Array.mapM_eq_foldlM, ← Array.foldlM_toList]
  have key : ∀ (l : List γ) (acc : Array δ), (∀ v ∈ acc, Q v) → yg H T P (fun r => ∀ v ∈ r, Q v) (l.foldlM (fun bs a => do let b ← f a; pure (bs.push b)) acc) := by
    intro l
    induction l with
    | nil => intro acc ha; exact ha
    | cons x l ih =>
      intro acc ha
      rw [List.foldlM_cons]
      refine yg_bind (Q := fun r : Array δ => ∀ v ∈ r, Q v) (yg_bind (h x) fun b hb => yg_pure fun v hv => ?_) fun r hr => ih r hr
      rcases Array.mem_push.1 hv with h1 | rfl
      · exact ha v h1
      · exact hb
  exact key _ _ (by simp)
theorem getD_y0 {ts : Array Value} (h : ∀ v ∈ ts, y0 H (sP S) v) (t : Nat) : y0 H (sP S) (ts.getD t undef) := by
  rw [Array.getD_eq_getD_getElem?]
  cases ht : ts[t]? with
  | none => exact y0_undef
  | some v => exact h v (Array.mem_of_getElem? ht)
theorem yg_asAddr {T : Nat → Prop} {v : Value} (h : y0 H T v) : yg H T P (fun a => H a.block) (asAddr v) := by
  unfold asAddr
  split
  · exact h _ rfl
  · exact yg_runtimePanicN
  · trivial
theorem yg_results {fn : Func} (h : gF P S H fr) : yg H (sP S) P (y0 H (sP S)) (results fn fr.tmps) := by
  unfold results
  refine yg_bind (yg_mapMQ (Q := y0 H (sP S)) _ (fun r => ?_) _) fun vs hvs => ?_
  · cases r with
    | tmp t => exact yg_pure (getD_y0 h.tmps t)
    | cell a t => exact yg_bind (yg_asAddr (getD_y0 h.tmps a)) fun ad had => yg_loadVar had
  · refine yg_pure ?_
    split
    · exact hvs _ (Array.getElem_mem _)
    · exact y0_tuple.2 hvs
/-- The step of an operation. -/
theorem apply_good (hS : SOk P S) (h : gF P S H fr) (hs : ∀ f ∈ seg, gF P S H f) {ops : Array Oper} {i : Nat} {rest : List Nat} {k : List Item} (ht : fr.todo = .inRegion ops (i :: rest) :: k) {s : Sem Next} (hy : yg H (sP S) P (yN H (sP S)) s) (hw : yHeap H (sP S) w) :
    Stays P S H base w (stepG.apply P true fr (seg ++ base) none s w) := by
  have hr := yg_run hy w #[] hw
  obtain ⟨⟨u, hu, hu2⟩, hr2⟩ := hr
  have hes : ∀ e ∈ (s.runT P w #[]).2, yEv H e := by rw [hu]; simpa using hu2
  unfold stepG.apply
  simp only [if_true, ht, h.kind]
  generalize hrr : s.runT P w #[] = r at hr2 hes
  obtain ⟨r, es⟩ := r
  dsimp only at hr2 hes ⊢
  have hk : (CallKind.normal == CallKind.early) = false := rfl
  cases r with
  | ok n w' =>
    obtain ⟨hn, hst⟩ := hr2
    have hes' : ∀ e ∈ seen P fr.fn es, yEv H e := fun e he => hes e (mem_seen he)
    cases n with
    | value v => 
      simp only [hk, Bool.false_eq_true, if_false, GStep.after, Array.append_empty]
      exact Stays.go (h.finish hn) hs hst hes'
    | skip =>
      simp only [hk, Bool.false_eq_true, if_false, GStep.after, Array.append_empty]
      exact Stays.go (h.finish y0_undef) hs hst hes'
    | enter f args =>
      simp only [hk, Bool.false_eq_true, if_false, GStep.after, Array.append_empty]
      exact Stays.go (seg' := fr :: seg) (gF.enter hS hn.1 hn.2) (by
        intro f' hf'
        rcases List.mem_cons.1 hf' with rfl | hf'
        · exact h
        · exact hs f' hf') hst hes'
    | _ => exact hn.elim
  | halt hh w' =>
    obtain ⟨hn, hst⟩ := hr2
    have hes' : ∀ e ∈ seen P fr.fn es, yEv H e := fun e he => hes e (mem_seen he)
    cases hh with
    | panic v =>
      simp only [hk, Bool.false_eq_true, if_false, GStep.after, Array.append_empty]
      exact Stays.go (h.raise _) hs hst hes'
    | stuck m => trivial
    | unsupported u =>
      cases u <;> first | exact hn.elim | trivial
    | _ => exact hn.elim
/-- ████ A STEP OF GOOD FRAMES. ████ -/
theorem step_good (hS : SOk P S) {main : Bool} (h : gF P S H fr) (hs : ∀ f ∈ seg, gF P S H f) (hb : fr.mode = .run ∨ seg ≠ []) (hw : yHeap H (sP S) w) :
    Stays P S H base w (stepG P main (Conc.G fr (seg ++ base)) w) := by
  obtain ⟨fn, hfn, -, -⟩ := hS.has fr.fn h.known
  have hst0 : yStep H (sP S) w w := .refl hw
  have stay : ∀ todo : List Item, (∀ it ∈ todo, okItem P S it = true) → Stays P S H base w (.go (Conc.G { fr with todo } (seg ++ base)) w) := fun todo ht => Stays.go (h.todoed ht) hs hst0 (by simp)
  have leave : Stays P S H base w (.go (Conc.G { fr with mode := .returning } (seg ++ base)) w) := Stays.go (h.moded _) hs hst0 (by simp)
  cases hm : fr.mode with
  | run =>
    obtain ⟨ffn, ftmps, ftodo, fdefers, fmode, fkind, fround⟩ := fr
    obtain rfl : fmode = .run := hm
    obtain rfl : fround = none := h.round
    have hall := h.todo
    dsimp only at hall
    cases ftodo with
    | nil => exact leave
    | cons it k =>
      have hit := hall it (List.mem_cons_self ..)
      have hk : ∀ x ∈ k, okItem P S x = true := fun x hx => hall x (List.mem_cons_of_mem _ hx)
      cases it with
      | code c =>
        cases c with
        | skip => exact stay k hk
        | label l => exact stay k hk
        | seq a b =>
          simp only [okItem, okCode, Bool.and_eq_true] at hit
          refine stay _ fun x hx => ?_
          rcases List.mem_cons.1 hx with rfl | hx
          · exact hit.1
          · rcases List.mem_cons.1 hx with rfl | hx
            · exact hit.2
            · exact hk x hx
        | cond c a b =>
          simp only [okItem, okCode, Bool.and_eq_true] at hit
          unfold Conc.G stepG
          simp only [stepG.exec]
          split
          · rename_i b _
            refine stay _ fun x hx => ?_
            rcases List.mem_cons.1 hx with rfl | hx
            · cases b
              · exact hit.2
              · exact hit.1
            · exact hk x hx
          · trivial
        | block id c =>
          refine stay _ fun x hx => ?_
          rcases List.mem_cons.1 hx with rfl | hx
          · exact hit
          · rcases List.mem_cons.1 hx with rfl | hx
            · rfl
            · exact hk x hx
        | loop c =>
          refine stay _ fun x hx => ?_
          rcases List.mem_cons.1 hx with rfl | hx
          · exact hit
          · rcases List.mem_cons.1 hx with rfl | hx
            · exact hit
            · exact hk x hx
        | scope c =>
          refine stay _ fun x hx => ?_
          rcases List.mem_cons.1 hx with rfl | hx
          · exact hit
          · rcases List.mem_cons.1 hx with rfl | hx
            · exact hit
            · exact hk x hx
        | exit id =>
          unfold Conc.G stepG
          simp only [stepG.exec]
          cases he : exitTo id k with
          | none => trivial
          | some k' => exact stay k' fun x hx => hk x (exitTo_sub he x hx)
        | ret => exact leave
        | region id ops draw =>
          cases draw with
          | false =>
            refine stay _ fun x hx => ?_
            rcases List.mem_cons.1 hx with rfl | hx
            · exact hit
            · exact hk x hx
          | true =>
            have hd : yStep H (sP S) w { w with drawn := w.drawn + 1 } := yStep.drew hw
            refine Stays.go (w' := { w with drawn := w.drawn + 1 }) (fr' := { fn := ffn, tmps := ftmps, todo := .inRegion ops (Region.schedule (P.follows .mixedOrders) ops (w.tape w.drawn (.order ffn id))) :: k, defers := fdefers, mode := .run, kind := fkind, roundOf := none }) (es := #[]) (h.todoed fun x hx => ?_) hs hd (by simp)
            rcases List.mem_cons.1 hx with rfl | hx
            · exact hit
            · exact hk x hx
        | _ => exact absurd hit Bool.false_ne_true
      | inBlock id => exact stay k hk
      | inScope c => exact stay k hk
      | inLoop c =>
        refine stay _ fun x hx => ?_
        rcases List.mem_cons.1 hx with rfl | hx
        · exact hit
        · rcases List.mem_cons.1 hx with rfl | hx
          · exact hit
          · exact hk x hx
      | inRegion ops is =>
        cases is with
        | nil => exact stay k hk
        | cons i rest =>
          unfold Conc.G stepG
          simp only [stepG.exec]
          split
          · rename_i hwant
            cases ho : ops[i]? with
            | none => rw [ho] at hwant; simp at hwant
            | some o =>
              have hoo : okOp P S o.op = true := by
                have : ops.all (fun o => okOp P S o.op) = true := hit
                rw [Array.all_eq_true_iff_forall_mem] at this
                exact this o (Array.mem_of_getElem? ho)
              have key := apply_good (base := base) hS h hs (ops := ops) (i := i) (rest := rest) (k := k) rfl (okOp_sound hS.has hoo h.reads) hw
              simp only [stepG.oper, Frame.oper?, ho]
              exact key
          · exact Stays.go (h.finish y0_undef) hs hst0 (by simp)
      | _ => exact absurd hit Bool.false_ne_true
  | returning =>
    cases seg with
    | nil => rcases hb with hb | hb
             · rw [hm] at hb; cases hb
             · exact absurd rfl hb
    | cons c seg =>
      have hr := yg_run (yg_results (fn := fn) h) w #[] hw
      obtain ⟨⟨u, hu, hu2⟩, hr2⟩ := hr
      have hes : ∀ e ∈ seen P fr.fn ((results fn fr.tmps).runT P w #[]).2, yEv H e := fun e he => by
        have := mem_seen he
        rw [hu] at this
        exact hu2 e (by simpa using this)
      obtain ⟨ffn, ftmps, ftodo, fdefers, fmode, fkind, fround⟩ := fr
      obtain rfl : fmode = .returning := hm
      obtain rfl : fdefers = [] := h.defers
      obtain rfl : fkind = .normal := h.kind
      unfold Conc.G stepG
      simp only [unwind, hfn]
      dsimp only at hfn hr2 hes
      generalize hrr : (results fn ftmps).runT P w #[] = r at hr2 hes
      obtain ⟨r, es⟩ := r
      cases r with
      | ok v w' =>
        obtain ⟨hv, hst⟩ := hr2
        simp only [doReturn, GStep.after, Array.append_empty, List.cons_append]
        exact Stays.go (seg' := seg) ((hs c (List.mem_cons_self ..)).finish hv) (fun f hf => hs f (List.mem_cons_of_mem _ hf)) hst hes
      | halt hh w' =>
        cases hh <;> trivial
  | panicking ch =>
    cases seg with
    | nil => rcases hb with hb | hb
             · rw [hm] at hb; cases hb
             · exact absurd rfl hb
    | cons c seg =>
      obtain ⟨ffn, ftmps, ftodo, fdefers, fmode, fkind, fround⟩ := fr
      obtain rfl : fmode = .panicking ch := hm
      obtain rfl : fdefers = [] := h.defers
      unfold Conc.G stepG
      simp only [unwind, List.cons_append]
      split
      · trivial
      · exact Stays.go (seg' := seg) ((hs c (List.mem_cons_self ..)).raise ch) (fun f hf => hs f (List.mem_cons_of_mem _ hf)) hst0 (by simp)
end
end Go.Proofs.Ytmoajpkgdimdaaa
