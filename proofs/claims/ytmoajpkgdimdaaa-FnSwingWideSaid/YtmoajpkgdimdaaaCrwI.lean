/- Three workers and their starter: whatever step of the starter's; the run comes, on every tape, to the starter behind its 'acquire', beside three that only leave. -/
import Derived.Test.YtmoajpkgdimdaaaCrwH
import Derived.Conc.Beside
set_option linter.unusedSectionVars false
set_option linter.unusedVariables false
namespace Go.Proofs.Ytmoajpkgdimdaaa
open Go.Conc Go.ConcN
open Go.ConcR (KK wgBlock WgAt stA smA rd wr mk Payload DC0 Bk g_of_ofEvents bk_of_mute ofEvent_loc_mark ofEvent_mk)
variable [Payload]

/-- What is held of the trace: as the kit's 'Past', without its bound. -/
structure Pst (Shun : Loc → Prop) (t : Trace) : Prop where
  clean : ∀ said, ¬ Race said t
  known : ∀ i a, touchAt t i = some a → a.loc.isMemory = true → Knows t 0 i ∨ (Shun a.loc ∧ a.kind = .atomic)
  over : t.HandedOver
  hears : Deaf t 0 = 0
def OfWg (b : Nat) (l : Loc) : Prop := ∃ a, l = .cell a ∧ a.block = b
/-- Nobody may touch it but atomically any more. -/
def Shn (K : Cst) (l : Loc) : Prop := OfWg K.Wg l ∨ ∃ c, c < K.H0 ∧ l = .obj c
def CFin (K : Cst) (End : Goroutine → World → Prop) (W0 : World) (m : Machine) (t : Trace) : Prop :=
  ∃ (gs : Array Goroutine) (w : World) (sl : Option (Nat × Nat)) (a : Goroutine) (q : Nat → Nat), m = crowd gs w sl ∧ gs[0]? = some a ∧ End a w ∧ Kept K W0 w ∧ w.heap[K.Lb]? = some K.lost ∧ Leavers K.P t gs q ∧ Pst (Shn K) t

section
variable {K : Cst} {End Anch : Goroutine → World → Prop} {ns bs : List Value} {rs : List (Value × Value)} {W0 : World}
  {gs : Array Goroutine} {w w' : World} {sl : Option (Nat × Nat)} {j p i : Nat} {D D' : Nat → WD} {ph ph' : Nat → Ph} {tag tag' : CTag} {f0 f' d0 : Nat} {a a' g g' g₂ : Goroutine} {t : Trace} {st sm st' sm' : Int} {es : Array Event}

abbrev CGoal (K : Cst) (End Anch : Goroutine → World → Prop) (ns bs : List Value) (rs : List (Value × Value)) (W0 : World) (gs : Array Goroutine) (w : World) (sl : Option (Nat × Nat)) (t : Trace) (D : Nat → WD) (ph : Nat → Ph) (tag : CTag) (f0 : Nat) : Prop :=
  ∃ m₁ ops μ', runT K.P (crowd gs w sl) 0 = (.next m₁, ops) ∧ Lt2 μ' (Mu ph D tag f0) ∧ CInv K End Anch ns bs rs W0 μ' m₁ (t ++ ops)

/-- Whatever step of the starter's that turns the group's block at most. -/
theorem cGo (G : Geo K) (hj : 1 ≤ j) (hj3 : j ≤ 3) (ha : gs[0]? = some a) (hs : Sys K ns bs rs W0 j gs w D ph) {d1 : Nat} (htr' : Tr K p j w' (t ++ MemOp.ofEvents 0 a.frame.fn a.frame.place es) D d1)
    (hgo : stepG K.P true a w = .go a' w' es) (hAs : Aside K.Wg w w') (hwg' : WgAt K.ty K.Wg w' st' sm') (hm' : MS K End Anch ns bs rs tag' j f' d1 a' w')
    (hmode' : Go.ConcN.Mode 3 D tag' st' sm') (hlt : phi 3 (Vc 3 D) tag' < phi 3 (Vc 3 D) tag ∨ (phi 3 (Vc 3 D) tag' = phi 3 (Vc 3 D) tag ∧ f' < f0)) : CGoal K End Anch ns bs rs W0 gs w sl t D ph tag f0 := by
  have old : ∀ b, b ≠ K.Wg → w'.heap[b]? = w.heap[b]? := fun b h => hAs.block b h
  have hcn : chA K.cN (ph 0).fin w' := let ⟨s, r, tm, e⟩ := hs.chn; ⟨s, r, tm, (old _ (Ne.symm G.wn)).trans e⟩
  have hcb : chA K.cB (ph 1).fin w' := let ⟨s, r, tm, e⟩ := hs.chb; ⟨s, r, tm, (old _ (Ne.symm G.wb)).trans e⟩
  have rl : ∀ k, Rly K k w w' := fun k => Rly.of_one G (.inl rfl) hAs.size old fun _ => ⟨_, _, hwg'⟩
  have hrun := runT_crowd_go (P := K.P) (sl := sl) (i := 0) ha (by simpa using hgo)
  refine ⟨_, _, Mu ph D tag' f', hrun, ?_, _, w', sl, j, p, D, ph, tag', f', d1, a', st', sm', rfl, hj, get_map_set_same _ _ _ (by rw [hs.size]; omega), hm', ?_, hwg', hmode', htr', rfl⟩
  · unfold Mu
    rcases hlt with h | ⟨h1, h2⟩
    · exact Prod.Lex.left _ _ (by omega)
    · rw [h1]; exact Prod.Lex.right _ (by omega)
  · refine ⟨by simp [hs.size], fun i' hi' => ?_, hs.idle, hs.okn, hs.okb, hcn, hcb, ⟨fun e => (old _ (Ne.symm G.wl)).trans (hs.lost.1 e), fun h3 => (old _ (Ne.symm G.wl)).trans (hs.lost.2 h3)⟩, hs.kept.of_old ⟨hAs.tape, hAs.os, hAs.output⟩ (by rw [hAs.size]; exact Nat.le_refl _) fun b _ h2 _ _ _ => old b h2⟩
    obtain ⟨gi, hgi, hwi⟩ := hs.wk i' hi'
    exact ⟨woken K.P a a' w' gi, by rw [get_map_set _ _ _ _ (by omega), hgi]; rfl, oth_of (i := 3) G hj3 hs.okn hs.okb hcn hcb (fun i' _ _ => rl _) (fun _ _ => rfl) i' hi' (by omega) gi hwi⟩
/-- The starter in the library's text. -/
theorem cBook (G : Geo K) (hj : 1 ≤ j) (hj3 : j ≤ 3) (ha : gs[0]? = some a) (hs : Sys K ns bs rs W0 j gs w D ph) (htr : Tr K p j w t D d0)
    (hgo : stepG K.P true a w = .go a' w' es) (hAs : Aside K.Wg w w') (hwg' : WgAt K.ty K.Wg w' st' sm') (hbk : ∀ e ∈ es, Bk K.Wg e) (hm' : MS K End Anch ns bs rs tag' j f' (deafBehind d0 es) a' w')
    (hmode' : Go.ConcN.Mode 3 D tag' st' sm') (hlt : phi 3 (Vc 3 D) tag' < phi 3 (Vc 3 D) tag ∨ (phi 3 (Vc 3 D) tag' = phi 3 (Vc 3 D) tag ∧ f' < f0)) : CGoal K End Anch ns bs rs W0 gs w sl t D ph tag f0 :=
  cGo G hj hj3 ha hs (htr.book0 G hbk (.of_one G.wg fun b h => hAs.block b h)) hgo hAs hwg' hm' hmode' hlt
theorem cIdle (G : Geo K) (hj : 1 ≤ j) (hj3 : j ≤ 3) (ha : gs[0]? = some a) (hs : Sys K ns bs rs W0 j gs w D ph) (htr : Tr K p j w t D d0) (hwg : WgAt K.ty K.Wg w st sm) (hmode : Go.ConcN.Mode 3 D tag st sm)
    (hgo : stepG K.P true a w = .go a' w es) (hes : ∀ e ∈ es, EvM K e) (hm' : MS K End Anch ns bs rs tag j f' d0 a' w) (hf : f' < f0) : CGoal K End Anch ns bs rs W0 gs w sl t D ph tag f0 :=
  cGo G hj hj3 ha hs (htr.own0 G hes) hgo (.refl K.Wg w) hwg hm' hmode (.inr ⟨rfl, hf⟩)

theorem w1StepM (G : Geo K) (hj : 1 ≤ j) (ha : gs[0]? = some a) (hs : Sys K ns bs rs W0 3 gs w D ph) (htr : Tr K p 3 w t D 1) (hwg : WgAt K.ty K.Wg w st sm) (hmode : Go.ConcN.Mode 3 D .w1 st sm)
    (h : Goes K.P true (Rly K 0) (DM K) (AtW1M K End Anch) f0 a w) : CGoal K End Anch ns bs rs W0 gs w sl t D ph .w1 f0 := by
  rcases Goes.cases h with hstop | ⟨m', rfl, hstep⟩
  · obtain ⟨_, hall⟩ := hstop w (Rly.refl w)
    obtain ⟨ho, rfl, rfl, _⟩ := hmode.open_inv trivial
    have hV := Vc_le 3 D
    obtain ⟨a', hgo, h0, hne⟩ := hall (Vc 3 D) (by omega) (by simpa [pend] using hwg)
    by_cases hv : Vc 3 D = 0
    · obtain ⟨m₂, hk⟩ := h0 hv
      refine cBook G (by omega) (Nat.le_refl 3) ha hs htr hgo (.refl K.Wg w) hwg bk_rd (tag' := .ke) (.ke hk) ?_ (.inl (by simp only [phi]; omega))
      have e : ((Vc 3 D + pend .w1 : Nat) : Int) * KK = 0 := by rw [hv]; simp [pend]
      rw [e]
      exact .fin trivial (allQuit_of ho hv)
    · obtain ⟨m₂, hk⟩ := hne hv
      exact cBook G (by omega) (Nat.le_refl 3) ha hs htr hgo (.refl K.Wg w) hwg bk_rd (tag' := .w2 (Vc 3 D)) (.w2 hk) (hmode.reopen trivial trivial rfl (fun vs e => by cases e; omega)) (.inl (by simp only [phi]; omega))
  · obtain ⟨a', w', es, hgo, ⟨rfl, hes⟩, hg'⟩ := hstep w (Rly.refl w)
    exact cIdle G (by omega) (Nat.le_refl 3) ha hs htr hwg hmode hgo hes (.w1 hg') (by omega)

/-- A go statement. -/
theorem cFork (G : Geo K) {r : Nat} (hr : r < 3) (ha : gs[0]? = some a) (hs : Sys K ns bs rs W0 (3 - (r + 1)) gs w D ph) (htr : Tr K p (3 - (r + 1)) w t D 0) (hwg : WgAt K.ty K.Wg w st sm) (hmode : Go.ConcN.Mode 3 D (.sp r 5) st sm)
    {child : Goroutine} (hsp : stepG K.P true a w = .spawn a' child w #[]) {m₂ : Nat} (hwk : WS K (3 - (r + 1) + 1) (chOf K (3 - (r + 1))) (zOf K (3 - (r + 1))) (ini ns bs rs (3 - (r + 1))) 7 m₂ 0 child w)
    {m : Nat} (hk : Goes K.P true (Rly K 0) (DM K) (AtFork K Anch ns bs rs r) m a' w) : CGoal K End Anch ns bs rs W0 gs w sl t D ph (.sp r 5) f0 := by
  have hrun' := runT_crowd_spawn (P := K.P) (sl := sl) (i := 0) ha (by simpa using hsp)
  rw [hs.size] at hrun'
  generalize hjj : 3 - (r + 1) = j at *
  have ej : j + 1 = 3 - r := by omega
  have hidle := hs.idle j (Nat.le_refl _) (by omega)
  have hDs : ∀ i', (upd D j ⟨7, m₂, 0⟩ i').stage = (D i').stage ∧ (upd D j ⟨7, m₂, 0⟩ i').deaf = (D i').deaf := fun i' => by
    by_cases e : i' = j
    · subst e; rw [upd_same, hidle.1]; exact ⟨rfl, rfl⟩
    · rw [upd_ne D _ e]; exact ⟨rfl, rfl⟩
  have e1 : Vc 3 (upd D j ⟨7, m₂, 0⟩) = Vc 3 D := sumTo_congr fun a ha => by simp only [cnt, (hDs a).1]
  have e2 : Ssum 3 (upd D j ⟨7, m₂, 0⟩) = Ssum 3 D := sumTo_congr fun a ha => (hDs a).1
  have hsys : Sys K ns bs rs W0 (j + 1) ((gs.setIfInBounds 0 a').push child) w (upd D j ⟨7, m₂, 0⟩) ph := by
    refine ⟨by simp [hs.size], fun i' hi' => ?_, fun i' h1 h2 => by rw [upd_ne D _ (by omega)]; exact hs.idle i' (by omega) h2, hs.okn, hs.okb, hs.chn, hs.chb, ⟨hs.lost.1, fun h3 => hs.lost.2 (by omega)⟩, hs.kept⟩
    by_cases e : i' = j
    · subst e
      refine ⟨child, ?_, by rw [upd_same, hidle.2]; exact hwk⟩
      rw [Array.getElem?_push, if_pos (by simp [hs.size])]
    · obtain ⟨gi, hgi, hwi⟩ := hs.wk i' (by omega)
      refine ⟨gi, ?_, by rw [upd_ne D _ e]; exact hwi⟩
      rw [Array.getElem?_push_lt (by simp [hs.size]; omega), ← Array.getElem?_eq_getElem, Array.getElem?_setIfInBounds_ne (by omega)]
      exact hgi
  have htr' : Tr K p (j + 1) w (t ++ #[{ g := 0, fn := a.frame.fn, pos := a.frame.place, act := .go (j + 1) }, { g := j + 1, fn := child.frame.fn, pos := a.frame.place, act := .start }]) (upd D j ⟨7, m₂, 0⟩) 0 := by
    have hu : ∀ op ∈ (#[{ g := 0, fn := a.frame.fn, pos := a.frame.place, act := .go (j + 1) }, { g := j + 1, fn := child.frame.fn, pos := a.frame.place, act := .start }] : Trace), op.act.touch? = none ∧ ∀ m, op.act ≠ .mark m := by
      intro op hop
      simp only [List.mem_toArray, List.mem_cons, List.not_mem_nil, or_false] at hop
      rcases hop with rfl | rfl <;> exact ⟨rfl, by simp⟩
    have dst : ∀ g, Deaf (t ++ #[{ g := 0, fn := a.frame.fn, pos := a.frame.place, act := .go (j + 1) }, { g := j + 1, fn := child.frame.fn, pos := a.frame.place, act := .start }]) g = Deaf t g := fun g => Go.ConcN.Deaf_still t g _ fun op hop => ⟨(hu op hop).2 _, (hu op hop).2 _⟩
    exact ⟨htr.tl.fork ⟨rfl, rfl⟩ ⟨rfl, rfl⟩ htr.deaf0, htr.norel.app fun op hop => (hu op hop).2 _, (dst 0).trans htr.deaf0, fun i hi => by rw [dst, htr.deafW i hi, (hDs i).2],
      fun i hi h6 => let ⟨r, hr⟩ := htr.rel i hi (by rw [← (hDs i).1]; exact h6); ⟨r, RelBy.quiet hr fun op hop => (hu op hop).1⟩⟩
  have ha' : ((gs.setIfInBounds 0 a').push child)[0]? = some a' := by
    rw [Array.getElem?_push_lt (by simp [hs.size]), ← Array.getElem?_eq_getElem]
    simp [hs.size]
  have eo : ((MemOp.ofEvents 0 a.frame.fn a.frame.place #[]).push { g := 0, fn := a.frame.fn, pos := a.frame.place, act := .go (j + 1) }).push { g := j + 1, fn := child.frame.fn, pos := a.frame.place, act := .start } = #[{ g := 0, fn := a.frame.fn, pos := a.frame.place, act := .go (j + 1) }, { g := j + 1, fn := child.frame.fn, pos := a.frame.place, act := .start }] := by
    rw [ofEvents_eq]; simp
  rw [eo] at hrun'
  have hmode' : ∀ tag', isOpen tag' → pend tag' = 0 → (∀ vs, tag' ≠ .w2 vs) → Go.ConcN.Mode 3 (upd D j ⟨7, m₂, 0⟩) tag' st sm := fun tag' h1 h2 h3 =>
    (hmode.reopen (tag' := tag') trivial h1 (by rw [h2]; rfl) (fun vs e => absurd e (h3 vs))).congr fun i' _ => (hDs i').1
  cases r with
  | zero =>
    have hj2 : j = 2 := by omega
    subst hj2
    exact ⟨_, _, Mu ph (upd D 2 ⟨7, m₂, 0⟩) .kd m, hrun', by unfold Mu; rw [e1, e2]; exact Prod.Lex.left _ _ (by simp only [phi]; omega), _, w, sl, 3, p, _, ph, .kd, m, 0, a', _, _, rfl, by omega, ha', .kd hk, hsys, hwg, hmode' .kd trivial rfl (by simp), htr', rfl⟩
  | succ r' =>
    have hms := MS.go (K := K) (End := End) (Anch := Anch) (ns := ns) (bs := bs) (rs := rs) (r := r') (by omega) hk
    rw [show 3 - (r' + 1) = j + 1 by omega] at hms
    exact ⟨_, _, Mu ph (upd D j ⟨7, m₂, 0⟩) (.sp r' 5) m, hrun', by unfold Mu; rw [e1, e2]; exact Prod.Lex.left _ _ (by simp only [phi]; omega), _, w, sl, j + 1, p, _, ph, .sp r' 5, m, 0, a', _, _, rfl, by omega, ha', hms, hsys, hwg, hmode' (.sp r' 5) trivial rfl (by simp), htr', rfl⟩

/-- Behind the 'acquire'. -/
theorem cAcq (G : Geo K) (ha : gs[0]? = some a) (hs : Sys K ns bs rs W0 3 gs w D ph) (htr : Tr K p 3 w t D 0) (hq : AllQuit 3 D)
    (hgo : stepG K.P true a w = .go a' w #[mk (.acquire (stA K.Wg))]) (hend : End a' w) : ∃ m₁ ops, runT K.P (crowd gs w sl) 0 = (.next m₁, ops) ∧ CFin K End W0 m₁ (t ++ ops) := by
  have hrun := runT_crowd_go (P := K.P) (sl := sl) (i := 0) ha (by simpa using hgo)
  have hlib : ∀ i, i < 3 → ph i = .lib := fun i hi => by
    apply Classical.byContradiction
    intro h
    obtain ⟨g, _, hw⟩ := hs.wk i hi
    have := (hw.stage7 h).1
    have := hq i hi
    omega
  have hquit : ∀ i, i < 3 → ∃ g, gs[i + 1]? = some g ∧ QuitsD K.P (D i).fuel (D i).deaf g := fun i hi => by
    obtain ⟨g, hg, hw⟩ := hs.wk i hi
    rw [hlib i hi] at hw
    have hh : ∀ {s m d : Nat}, WS K (i + 1) (chOf K i) (zOf K i) .lib s m d g w → s = 1 → QuitsD K.P m d g := by
      intro s m d h h1
      cases h with
      | lib h _ => exact h.quits h1
    exact ⟨g, hg, hh hw (hq i hi)⟩
  generalize hee : MemOp.ofEvents 0 a.frame.fn a.frame.place #[mk (.acquire (stA K.Wg))] = u at hrun
  have e1 : u = #[{ g := 0, fn := a.frame.fn, pos := a.frame.place, act := .mark (.acquire (stA K.Wg)) }] := by rw [← hee, ofEvents_eq]; simp [ofEvent_mk]
  have hu0 : ∀ op ∈ u, op.g = 0 := fun op hop => by rw [e1] at hop; simp at hop; rw [hop]
  have hut : ∀ op ∈ u, op.act.touch? = none := fun op hop => by rw [e1] at hop; simp at hop; rw [hop]; rfl
  have hua : (t ++ u).act? t.size = some (.mark (.acquire (stA K.Wg))) := by rw [e1]; exact act?_of (op := { g := 0, fn := a.frame.fn, pos := a.frame.place, act := .mark (.acquire (stA K.Wg)) }) (by simp)
  have hug : (t ++ u).g? t.size = some 0 := by rw [e1]; simp [Trace.g?]
  have huh : (t ++ u).heard t.size := ⟨0, hug, by rw [deaf_old (Nat.le_refl _)]; exact htr.deaf0⟩
  have tl : TL K p 3 w (t ++ u) := htr.tl.silent (fun op hop => ⟨hut op hop, by rw [hu0 op hop]; omega⟩) (.refl w)
  have hrel : ∀ i, i < 3 → ∃ r, RelBy (stA K.Wg) (t ++ u) (i + 1) r ∧ r < t.size := fun i hi => by
    obtain ⟨r, hr⟩ := htr.rel i hi (by rw [hq i hi]; omega)
    exact ⟨r, RelBy.quiet hr hut, lt_of_act? hr.act⟩
  have hnr : NoRelease (stA K.Wg) (t ++ u) := htr.norel.app fun op hop => by rw [e1] at hop; simp at hop; rw [hop]; simp
  have dst : ∀ g, Deaf (t ++ u) g = Deaf t g := fun g => Go.ConcN.Deaf_still t g _ fun op hop => by rw [e1] at hop; simp at hop; rw [hop]; simp
  have hall : ∀ i g, (t ++ u).g? i = some g → g ≠ 0 → ∃ r, RelBy (stA K.Wg) (t ++ u) g r ∧ r < t.size := fun i g hgi hne => by
    obtain ⟨op, ho, rfl⟩ := Option.map_eq_some_iff.1 hgi
    have := tl.gs i op ho
    have := hrel (op.g - 1) (by omega)
    rwa [show op.g - 1 + 1 = op.g by omega] at this
  refine ⟨_, _, hrun, _, w, sl, a', fun i => (D (i - 1)).fuel, rfl, get_map_set_same _ _ _ (by rw [hs.size]; omega), hend, hs.kept, hs.lost.1 (hlib 2 (by omega)), ⟨fun i g hi hg => ?_, fun i hi => ?_⟩, tl.nr, fun i x hx hmem => ?_, handedOver_all hall hnr hua hug huh, (dst 0).trans htr.deaf0⟩
  · obtain ⟨i', rfl⟩ : ∃ i', i = i' + 1 := ⟨i - 1, by omega⟩
    have hlt : i' < 3 := by have := (Array.getElem?_eq_some_iff.1 hg).1; simp [hs.size] at this; omega
    obtain ⟨g', hg', hq'⟩ := hquit i' hlt
    rw [get_map_set _ _ _ _ (by omega), hg'] at hg
    simp only [Option.map_some, Option.some.injEq] at hg
    subst hg
    rw [woken_quitsD hq', dst, htr.deafW i' hlt]
    exact hq'
  · simp [hs.size] at hi
    rw [dst]
    exact Deaf_absent fun q op ho => by have := htr.tl.gs q op ho; omega
  · obtain ⟨op, ho, hox⟩ := touch_of hx
    by_cases h0 : op.g = 0
    · have := knows_own ho
      rw [h0] at this
      exact .inl this
    · have hgi : (t ++ u).g? i = some op.g := by simp [Trace.g?, ho]
      obtain ⟨r, hr, hrq⟩ := hall i op.g hgi h0
      have hyp : (t ++ u)[t.size]? = some { g := 0, fn := a.frame.fn, pos := a.frame.place, act := .mark (.acquire (stA K.Wg)) } := by rw [e1]; simp
      have edge : HappensBefore (t ++ u) r t.size := .single (.inr ⟨.marked hrq (.inr hr.act) hua (fun k _ _ => hnr k), hr.heard, huh⟩)
      rcases Nat.lt_or_ge r i with hlt | hle
      · have hnc := hr.after i hlt hgi
        have hk : x.kind = .atomic := by
          by_cases hk : x.kind = .atomic
          · exact hk
          · exact absurd ⟨x, by simp [Trace.act?, ho, hox], hmem, .inl hk⟩ hnc
        have hpi : p ≤ i := by
          apply Classical.byContradiction
          intro h
          exact h0 (tl.old i op (by omega) ho)
        rcases tl.new i op x hpi ho hox with ⟨_, hl | hc⟩ | ⟨hg0, _⟩ | ⟨hk', _⟩
        · exact .inr ⟨.inl hl, hk⟩
        · exact .inr ⟨.inr hc, hk⟩
        · exact absurd hg0 h0
        · exact absurd hk hk'
      · refine .inl ⟨t.size, _, hyp, rfl, .inr ?_⟩
        rcases Nat.lt_or_ge i r with hlt | hge
        · exact .trans (.single (.inl ⟨hlt, op.g, hgi, hr.g⟩)) edge
        · obtain rfl : i = r := by omega
          exact edge
/-- ████ WHATEVER STEP OF THE STARTER's. ████ -/
theorem cStep (hA : ∀ g w, Anch g w → g.status = .running) (hAn : ∀ g w, Anch g w → ∃ m, Goes K.P true (Rly K 0) (DM K) (AtW1M K End Anch) m g w) (G : Geo K) (hj : 1 ≤ j) (ha : gs[0]? = some a) (hm : MS K End Anch ns bs rs tag j f0 d0 a w) (hs : Sys K ns bs rs W0 j gs w D ph) (hwg : WgAt K.ty K.Wg w st sm) (hmode : Go.ConcN.Mode 3 D tag st sm) (htr : Tr K p j w t D d0) (hrun : a.status = .running) :
    (∃ m₁ ops, runT K.P (crowd gs w sl) 0 = (.next m₁, ops) ∧ CFin K End W0 m₁ (t ++ ops)) ∨ CGoal K End Anch ns bs rs W0 gs w sl t D ph tag f0 := by
  have hj3 := hm.size
  have hVj := Vc_le 3 D
  have rn : Rly K 0 w w := Rly.refl w
  cases hm with
  | go hr h =>
    rcases Goes.cases h with hstop | ⟨m', rfl, hstep⟩
    · obtain ⟨-, a', child, hsp, hwk0, m, hk⟩ := hstop w rn
      obtain ⟨m₂, hwk⟩ := hwk0 (hs.lost.2 (by omega))
      exact .inr (cFork G hr ha hs htr hwg hmode hsp hwk hk)
    · obtain ⟨a', w', es, hgo, ⟨rfl, hes⟩, hg'⟩ := hstep w rn
      exact .inr (cIdle G hj hj3 ha hs htr hwg hmode hgo hes (.go hr hg') (by omega))
  | kd h =>
    rcases Goes.cases h with hstop | ⟨m', rfl, hstep⟩
    · obtain ⟨_, a', hgo, m₂, hk⟩ := hstop w rn
      exact .inr (cBook G hj hj3 ha hs htr hgo (.refl K.Wg w) hwg bk_dis (tag' := .anch) (.anch hk) (hmode.reopen trivial trivial rfl (by simp)) (.inl (by simp only [phi]; omega)))
    · obtain ⟨a', w', es, hgo, ⟨rfl, hes⟩, hg'⟩ := hstep w rn
      exact .inr (cIdle G hj hj3 ha hs htr hwg hmode hgo hes (.kd hg') (by omega))
  | anch h =>
    rcases Goes.cases h with hstop | ⟨m', rfl, hstep⟩
    · obtain ⟨m₂, hk⟩ := hAn a w (hstop w rn)
      obtain ⟨m₁, ops, μ', h1, h2, h3⟩ := w1StepM (sl := sl) (f0 := m₂) G hj ha hs htr hwg (hmode.reopen trivial trivial rfl (by simp)) hk
      refine .inr ⟨m₁, ops, μ', h1, lt2_trans h2 ?_, h3⟩
      unfold Mu
      exact Prod.Lex.left _ _ (by simp only [phi]; omega)
    · obtain ⟨a', w', es, hgo, ⟨rfl, hes⟩, hg'⟩ := hstep w rn
      exact .inr (cIdle G hj hj3 ha hs htr hwg hmode hgo hes (.anch hg') (by omega))
  | w1 h => exact .inr (w1StepM G hj ha hs htr hwg hmode h)
  | w2 h =>
    rename_i vs
    rcases Goes.cases h with hstop | ⟨m', rfl, hstep⟩
    · obtain ⟨_, hall⟩ := hstop w rn
      obtain ⟨ho, rfl, rfl, hw2⟩ := hmode.open_inv trivial
      obtain ⟨hle, h1⟩ := hw2 vs rfl
      obtain ⟨hhit, hmiss⟩ := hall (Vc 3 D) (by omega) (by simpa [pend] using hwg)
      by_cases e : Vc 3 D = vs
      · obtain ⟨a', hgo, m₂, hk⟩ := hhit e
        exact .inr (cBook G hj hj3 ha hs htr hgo (aside_setCell w (stA K.Wg) _) (hwg.setSt _) bk_rw (.w3 hk) (.reg trivial ho (by omega)) (.inl (by simp only [phi]; omega)))
      · obtain ⟨a', hgo, m₂, hk⟩ := hmiss e
        exact .inr (cBook G hj hj3 ha hs htr hgo (.refl K.Wg w) hwg bk_rd (.anch hk) (hmode.reopen trivial trivial rfl (by simp)) (.inl (by simp only [phi]; omega)))
    · obtain ⟨a', w', es, hgo, ⟨rfl, hes⟩, hg'⟩ := hstep w rn
      exact .inr (cIdle G hj hj3 ha hs htr hwg hmode hgo hes (.w2 hg') (by omega))
  | w3 h =>
    rcases Goes.cases h with hstop | ⟨m', rfl, hstep⟩
    · obtain ⟨_, hoff, hblk, htake⟩ := hstop w rn
      cases hmode with
      | opn h1 _ _ => exact h1.elim
      | reg h1 h2 h3 => exact .inr (cBook G hj hj3 ha hs htr (hblk ⟨_, hwg⟩) (.refl K.Wg w) hwg (by simp) (.blk hstop) (.reg trivial h2 h3) (.inr ⟨rfl, by omega⟩))
      | last L h1 h2 h3 h4 => exact .inr (cBook G hj hj3 ha hs htr (hblk ⟨_, hwg⟩) (.refl K.Wg w) hwg (by simp) (.blk hstop) (.last L trivial h2 h3 h4) (.inr ⟨rfl, by omega⟩))
      | sema h2 =>
        obtain ⟨a', hgo, m₂, hk⟩ := htake hwg
        exact .inr (cBook G hj hj3 ha hs htr hgo (aside_setCell w (smA K.Wg) _) (hwg.setSm 0) bk_sem (.w4 hk) (.fin trivial h2) (.inl (by simp only [phi]; omega)))
      | fin h1 _ => exact h1.elim
    · obtain ⟨a', w', es, hgo, ⟨rfl, hes⟩, hg'⟩ := hstep w rn
      exact .inr (cIdle G hj hj3 ha hs htr hwg hmode hgo hes (.w3 hg') (by omega))
  | blk h => simp at hrun
  | w4 h =>
    rcases Goes.cases h with hstop | ⟨m', rfl, hstep⟩
    · obtain ⟨_, hx⟩ := hstop w rn
      obtain ⟨hq, rfl, rfl⟩ := hmode.fin_inv trivial
      obtain ⟨a', hgo, m₂, hk⟩ := hx hwg
      exact .inr (cBook G hj hj3 ha hs htr hgo (.refl K.Wg w) hwg bk_rd (.ke hk) (.fin trivial hq) (.inl (by simp only [phi]; omega)))
    · obtain ⟨a', w', es, hgo, ⟨rfl, hes⟩, hg'⟩ := hstep w rn
      exact .inr (cIdle G hj hj3 ha hs htr hwg hmode hgo hes (.w4 hg') (by omega))
  | ke h =>
    rcases Goes.cases h with hstop | ⟨m', rfl, hstep⟩
    · obtain ⟨_, a', hgo, m₂, hk⟩ := hstop w rn
      obtain ⟨hq, rfl, rfl⟩ := hmode.fin_inv trivial
      exact .inr (cBook G hj hj3 ha hs htr hgo (.refl K.Wg w) hwg bk_en (.acq hk) (.fin trivial hq) (.inl (by simp only [phi]; omega)))
    · obtain ⟨a', w', es, hgo, ⟨rfl, hes⟩, hg'⟩ := hstep w rn
      exact .inr (cIdle G hj hj3 ha hs htr hwg hmode hgo hes (.ke hg') (by omega))
  | acq h =>
    rcases Goes.cases h with hstop | ⟨m', rfl, hstep⟩
    · obtain ⟨_, a', hgo, hend⟩ := hstop w rn
      exact .inl (cAcq G ha hs htr (hmode.fin_inv trivial).1 hgo hend)
    · obtain ⟨a', w', es, hgo, ⟨rfl, hes⟩, hg'⟩ := hstep w rn
      exact .inr (cIdle G hj hj3 ha hs htr hwg hmode hgo hes (.acq hg') (by omega))

/-- ████ ON WHATEVER TAPE: the starter comes behind its 'acquire'. ████ -/
theorem crew_runs (hA : ∀ g w, Anch g w → g.status = .running) (hAn : ∀ g w, Anch g w → ∃ m, Goes K.P true (Rly K 0) (DM K) (AtW1M K End Anch) m g w) (G : Geo K) : ∀ μ m t, CInv K End Anch ns bs rs W0 μ m t → ∃ N m' t', runNT K.P N m t = (.next m', t') ∧ CFin K End W0 m' t' := by
  intro μ
  induction μ using (show WellFounded Lt2 from (Prod.lex Nat.lt_wfRel Nat.lt_wfRel).wf).induction with
  | _ μ ih =>
    rintro m t ⟨gs, w, sl, j, p, D, ph, tag, f0, d0, a, st, sm, rfl, hj, ha, hm, hs, hwg, hmode, htr, rfl⟩
    obtain ⟨i, g, d, sl', hg, hrun, hstep⟩ := crowd_pick (P := K.P) (w := w) (sl := sl) (cinv_awake hA ha hm hs) (cinv_runs hA hj ha hm hs hmode)
    have hm' := hm.rely (Rly.at w d)
    have hs' := hs.at G d
    have hwg' : WgAt K.ty K.Wg (w.at d) st sm := hwg
    have htr' : Tr K p j (w.at d) t D d0 := ⟨htr.tl.world ⟨fun b cs _ h => ⟨cs, h⟩, fun b cs _ h => ⟨cs, h⟩⟩, htr.norel, htr.deaf0, htr.deafW, htr.rel⟩
    cases i with
    | zero =>
      rw [ha] at hg; cases hg
      rcases cStep (sl := sl') hA hAn G hj ha hm' hs' hwg' hmode htr' hrun with ⟨m₁, ops, h1, h2⟩ | ⟨m₁, ops, μ', h1, h2, h3⟩
      · exact ⟨1, m₁, t ++ ops, by rw [runNT_succ_next (hstep.trans h1)]; rfl, h2⟩
      · obtain ⟨N, m', t', e1, e2⟩ := ih μ' h2 m₁ _ h3
        exact ⟨N + 1, m', t', by rw [runNT_succ_next (hstep.trans h1)]; exact e1, e2⟩
    | succ i =>
      have hi : i < j := by have := (Array.getElem?_eq_some_iff.1 hg).1; rw [hs.size] at this; omega
      obtain ⟨m₁, ops, μ', h1, h2, h3⟩ := wStep (sl := sl') hA G hj ha hm' hs' hwg' hmode htr' hi hg hrun
      obtain ⟨N, m', t', e1, e2⟩ := ih μ' h2 m₁ _ h3
      exact ⟨N + 1, m', t', by rw [runNT_succ_next (hstep.trans h1)]; exact e1, e2⟩
end
end Go.Proofs.Ytmoajpkgdimdaaa
