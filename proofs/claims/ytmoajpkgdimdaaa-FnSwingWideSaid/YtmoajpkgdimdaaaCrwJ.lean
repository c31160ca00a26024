/- From the first go statement to the return, on every tape: the crew, then a walk beside leavers that asks the tape. -/
import Derived.Test.YtmoajpkgdimdaaaCrwI
set_option linter.unusedSectionVars false
set_option linter.unusedVariables false
namespace Go.Proofs.Ytmoajpkgdimdaaa
open Go.Conc Go.ConcN
open Go.ConcR (KK wgBlock WgAt stA smA rd wr mk Payload DC0 Bk g_of_ofEvents bk_of_mute ofEvent_loc_mark ofEvent_mk)

def EvS (Shun : Loc → Prop) (e : Event) : Prop := (∀ x, (MemAct.ofEvent e).touch? = some x → Shun x.loc → x.kind ≠ .plain) ∧ e.loc ≠ .mark .disable ∧ e.loc ≠ .mark .enable
section
variable {Shun : Loc → Prop} {t u : Trace}
theorem Pst.own (h : Pst Shun t) {fn : FuncId} {pos : String} {es : Array Event} (hes : ∀ e ∈ es, EvS Shun e) : Pst Shun (t ++ MemOp.ofEvents 0 fn pos es) := by
  have hu : ∀ op ∈ MemOp.ofEvents 0 fn pos es, op.g = 0 := fun op hop => by obtain ⟨e, _, rfl⟩ := Go.Conc.mem_ofEvents hop; rfl
  have hs : ∀ op ∈ MemOp.ofEvents 0 fn pos es, ∀ b, op.act.touch? = some b → Shun b.loc → b.kind ≠ .plain := fun op hop b hb => by obtain ⟨e, he, rfl⟩ := Go.Conc.mem_ofEvents hop; exact (hes e he).1 b hb
  have hd : Deaf (t ++ MemOp.ofEvents 0 fn pos es) 0 = Deaf t 0 := by
    rw [Deaf_own]
    exact deafBehind_still (fun e he => ⟨(hes e he).2.1, (hes e he).2.2⟩) _
  refine ⟨fun said => noRace_append (h.clean said) hu fun i a ha op hop b hb hc => ?_, fun i a ha hm => ?_, handedOver_app h.over fun op hop => .inl (hu op hop), hd.trans h.hears⟩
  · rcases h.known i a ha hc.2.1 with hk | ⟨hsa, hka⟩
    · exact hk
    · have hkb := hs op hop b hb (hc.1 ▸ hsa)
      obtain ⟨_, _, _, hcase⟩ := hc
      rw [hka] at hcase
      rcases hcase with x | x | ⟨_, x, _⟩
      · cases x
      · exact absurd x hkb
      · cases x
  · obtain ⟨x, hx, hxa⟩ := touch_of ha
    rcases getElem?_append_cases hx with ⟨_, hx'⟩ | ⟨_, hxu⟩
    · exact (h.known i a (by rw [touchAt_of hx']; exact hxa) hm).imp (·.app _) id
    · have := knows_own hx
      rw [hu x hxu] at this
      exact .inl this
theorem Pst.mute (h : Pst Shun t) {g : Nat} (hg : g ≠ 0) {fn : FuncId} {pos : String} {es : Array Event} (hm : ∀ e ∈ es, e.mute = true) : Pst Shun (t ++ MemOp.ofEvents g fn pos es) := by
  have hu : ∀ op ∈ MemOp.ofEvents g fn pos es, op.g = g := fun op hop => by obtain ⟨e, _, rfl⟩ := Go.Conc.mem_ofEvents hop; rfl
  have hn : ∀ op ∈ MemOp.ofEvents g fn pos es, op.act.touch? = none := fun op hop => by obtain ⟨e, he, rfl⟩ := Go.Conc.mem_ofEvents hop; exact touch_mute (hm e he)
  refine ⟨fun said => noRace_append (h.clean said) hu fun i a _ op hop b hb _ => (by rw [hn op hop] at hb; cases hb), fun i a ha hm => ?_, handedOver_app h.over fun op hop => .inr (hn op hop), (Deaf_other t hg _ hu).trans h.hears⟩
  obtain ⟨x, hx, hxa⟩ := touch_of ha
  rcases getElem?_append_cases hx with ⟨_, hx'⟩ | ⟨_, hxu⟩
  · exact (h.known i a (by rw [touchAt_of hx']; exact hxa) hm).imp (·.app _) id
  · rw [hn x hxu] at hxa; cases hxa
end

/-- Goroutine 0 stands at the step that ends the run. -/
def AtEndS (P : Program) (Shun : Loc → Prop) (Post : Value → World → Prop) (g : Goroutine) (w : World) : Prop :=
  g.status = .running ∧ ∃ v es, stepG P true g w = .ended (.done v) w es ∧ (∀ e ∈ es, EvS Shun e) ∧ Post v w
section
variable {P : Program} {Shun : Loc → Prop} {D : World → World → Array Event → Prop} {Post : Value → World → Prop} {a : Goroutine} {w : World}
theorem GoesW.at {main : Bool} {Stop : Goroutine → World → Prop} (h : GoesW P main D Stop a w) (d : Nat) : GoesW P main D Stop a (w.at d) := by
  cases h with
  | stop h => exact .stop fun d' => h d'
  | step g' w' es hs h1 h2 => exact .step g' w' es hs (fun d' => h1 d') h2
theorem GoesW.running {main : Bool} (h : GoesW P main D (AtEndS P Shun Post) a w) : a.status = .running := by
  cases h with
  | stop h => exact (h 0).1
  | step _ _ _ hs _ _ => exact hs
def EndsGood (P : Program) (Post : Value → World → Prop) (m : Machine) (t : Trace) : Prop :=
  ∃ N last o w' t', runNT P (N + 1) m t = (.ended o w', t') ∧ runN P N m = .next last ∧ step P last = .ended o w' ∧ Good P Post last o w' t'
theorem EndsGood.step {m m' : Machine} {t ops : Trace} (h : stepT P m = (.next m', ops)) (he : EndsGood P Post m' (t ++ ops)) : EndsGood P Post m t := by
  obtain ⟨N, last, o, w', t', e1, e2, e3, e4⟩ := he
  exact ⟨N + 1, last, o, w', t', by rw [runNT_succ_next h]; exact e1, by rw [runN_succ_next h]; exact e2, e3, e4⟩
/-- Who moves beside leavers. -/
theorem pick_beside {gs : Array Goroutine} {sl : Option (Nat × Nat)} {t : Trace} {q : Nat → Nat} (hrun : a.status = .running) (h0 : gs[0]? = some a) (hL : Leavers P t gs q) (hP : Pst Shun t) :
    (∃ d sl', stepT P (crowd gs w sl) = runT P (crowd gs (w.at d) sl') 0) ∨
    (∃ gs' d sl' ops q', stepT P (crowd gs w sl) = (.next (crowd gs' (w.at d) sl'), ops) ∧ gs'[0]? = some a ∧ Leavers P (t ++ ops) gs' q' ∧ Pst Shun (t ++ ops) ∧ sumTo gs'.size q' < sumTo gs.size q) := by
  have haw : ∀ g ∈ gs, awake g := by
    intro g hg
    obtain ⟨i, hi, rfl⟩ := Array.mem_iff_getElem.1 hg
    rcases Nat.eq_zero_or_pos i with rfl | hpos
    · have : gs[0] = a := by simpa [Array.getElem?_eq_getElem hi] using h0
      rw [this]; exact awake_of (.inl hrun)
    · exact awake_of ((hL.old i _ hpos (Array.getElem?_eq_getElem hi)).status.elim .inl fun x => .inr (.inr x))
  obtain ⟨i, g, d, sl', hi, hg, hst⟩ := crowd_pick (P := P) (w := w) (sl := sl) haw ⟨0, a, h0, hrun⟩
  rcases Nat.eq_zero_or_pos i with rfl | hpos
  · exact .inl ⟨d, sl', hst⟩
  · have hq := hL.old i g hpos hi
    have hi0 : (i == 0) = false := by simp; omega
    have hlt : i < gs.size := (Array.getElem?_eq_some_iff.1 hi).1
    cases hqi : q i with
    | zero => rw [hqi] at hq; rw [hq.1] at hg; cases hg
    | succ k =>
      rw [hqi] at hq
      rcases hq with ⟨hf, _⟩ | ⟨_, g', es, hm, hstp, hq'⟩
      · rw [hf] at hg; cases hg
      have hrunT := runT_crowd_go (P := P) (sl := sl') (i := i) hi (by rw [hi0]; exact hstp (w.at d))
      have hsz : ((gs.map (woken P g g' (w.at d))).setIfInBounds i g').size = gs.size := by simp
      have hsum : sumTo gs.size (upd q i k) + (k + 1) = sumTo gs.size q + k := by
        have := sumTo_upd q k id hlt
        simpa [hqi] using this
      refine .inr ⟨_, d, sl', _, upd q i k, hst.trans hrunT, ?_, ⟨fun j x hj hx => ?_, fun j hj => ?_⟩, hP.mute (by omega) hm, by rw [hsz]; omega⟩
      · have hne : i ≠ 0 := by omega
        rw [Array.getElem?_setIfInBounds_ne hne, Array.getElem?_map, h0]
        simp [woken_run hrun]
      · by_cases hji : i = j
        · subst hji
          rw [Array.getElem?_setIfInBounds_self_of_lt (by simpa using hlt)] at hx
          obtain rfl := Option.some.inj hx
          rw [upd_same, Deaf_own]
          exact hq'
        · rw [Array.getElem?_setIfInBounds_ne hji, Array.getElem?_map] at hx
          obtain ⟨y, hy, rfl⟩ := Option.map_eq_some_iff.1 hx
          have hqj := hL.old j y hj hy
          rw [woken_quitsD hqj, upd_ne q k (Ne.symm hji), Deaf_other t hji _ (fun op hop => by obtain ⟨e, _, rfl⟩ := Go.Conc.mem_ofEvents hop; rfl)]
          exact hqj
      · rw [Deaf_other t (g' := i) (by simp at hj; omega) _ (fun op hop => by obtain ⟨e, _, rfl⟩ := Go.Conc.mem_ofEvents hop; rfl)]
        exact hL.above j (by simpa using hj)
/-- ████ THE LAST WALK BESIDE LEAVERS, asking the tape: the run ends well. ████ -/
theorem beside_endsW (hD : ∀ w w' es, D w w' es → ∀ e ∈ es, EvS Shun e) (hG : GoesW P true D (AtEndS P Shun Post) a w) :
    ∀ (M : Nat) (gs : Array Goroutine) (w₀ : World) (sl : Option (Nat × Nat)) (t : Trace) (q : Nat → Nat), AtRel w w₀ → sumTo gs.size q < M → gs[0]? = some a → Leavers P t gs q → Pst Shun t → EndsGood P Post (crowd gs w₀ sl) t := by
  induction hG with
  | @stop a w hstop =>
    intro M
    induction M with
    | zero => intro gs w₀ sl t q hw hM; omega
    | succ M ih =>
      intro gs w₀ sl t q hw hM h0 hL hP
      obtain ⟨hrun, -⟩ := hstop 0
      obtain ⟨dw, rfl⟩ := hw
      rcases pick_beside (w := w.at dw) (sl := sl) hrun h0 hL hP with ⟨d, sl', hst⟩ | ⟨gs', d, sl', ops, q', hst, h0', hL', hP', hlt⟩
      · obtain ⟨_, v, es, hend, hes, hpost⟩ := hstop d
        have hrunT := runT_many_ended (P := P) (sl := sl') (i := 0) h0 (show stepG P (0 == 0) a (w.at d) = _ from hend)
        have hs : stepT P (crowd gs (w.at dw) sl) = (.ended (.done v) (w.at d), MemOp.ofEvents 0 a.frame.fn a.frame.place es) := hst.trans hrunT
        have hP' := hP.own (fn := a.frame.fn) (pos := a.frame.place) hes
        refine ⟨0, _, _, _, _, by simp [runNT, hs], rfl, by simp [step, hs], v, rfl, hpost, hP'.clean, hP'.over, ⟨fun x hx => ?_, rfl⟩, fun j x hx hj => ?_⟩
        · obtain ⟨j, hj⟩ := List.mem_iff_getElem?.1 hx
          rw [List.getElem?_drop] at hj
          exact ⟨_, (hL.old (1 + j) x (by omega) (by simpa [crowd] using hj)).leaves⟩
        · have hq := hL.old j x (by omega) hx
          refine ⟨q j, ?_⟩
          have e : (t ++ MemOp.ofEvents 0 a.frame.fn a.frame.place es).deaf j (t ++ MemOp.ofEvents 0 a.frame.fn a.frame.place es).size = Deaf t j :=
            Deaf_other t (g := j) (g' := 0) (by omega) _ (fun op hop => by obtain ⟨e, _, rfl⟩ := Go.Conc.mem_ofEvents hop; rfl)
          rw [e]
          exact hq.hears _
      · exact .step hst (ih gs' _ sl' _ q' ⟨d, rfl⟩ (by omega) h0' hL' hP')
  | @step a w g' w' es hs h1 h2 ih0 =>
    intro M
    induction M with
    | zero => intro gs w₀ sl t q hw hM; omega
    | succ M ih =>
      intro gs w₀ sl t q hw hM h0 hL hP
      obtain ⟨dw, rfl⟩ := hw
      rcases pick_beside (w := w.at dw) (sl := sl) hs h0 hL hP with ⟨d, sl', hst⟩ | ⟨gs', d, sl', ops, q', hst, h0', hL', hP', hlt⟩
      · obtain ⟨hgo, hd⟩ := h1 d
        have hrunT := runT_crowd_go (P := P) (sl := sl') (i := 0) h0 (show stepG P (0 == 0) a (w.at d) = _ from hgo)
        have hlt : 0 < gs.size := (Array.getElem?_eq_some_iff.1 h0).1
        refine .step (hst.trans hrunT) (ih0 d (sumTo gs.size q + 1) _ (w' d) sl' _ q ⟨(w' d).drawn, rfl⟩ (by simp) (by simp [hlt]) ⟨fun j x hj hx => ?_, fun j hj => ?_⟩ (hP.own (hD _ _ _ hd)))
        · have hne : 0 ≠ j := by omega
          rw [Array.getElem?_setIfInBounds_ne hne, Array.getElem?_map] at hx
          obtain ⟨y, hy, rfl⟩ := Option.map_eq_some_iff.1 hx
          have hq := hL.old j y hj hy
          rw [woken_quitsD hq, Deaf_other t (by omega) _ (fun op hop => by obtain ⟨e, _, rfl⟩ := Go.Conc.mem_ofEvents hop; rfl)]
          exact hq
        · rw [Deaf_other t (g' := 0) (by simp at hj; omega) _ (fun op hop => by obtain ⟨e, _, rfl⟩ := Go.Conc.mem_ofEvents hop; rfl)]
          exact hL.above j (by simpa using hj)
      · exact .step hst (ih gs' _ sl' _ q' ⟨d, rfl⟩ (by omega) h0' hL' hP')
theorem EndsGood.after {N : Nat} {m m' : Machine} {t t' : Trace} (h : runNT P N m t = (.next m', t')) (he : EndsGood P Post m' t') : EndsGood P Post m t := by
  obtain ⟨M, last, o, w', t'', e1, e2, e3, e4⟩ := he
  refine ⟨N + M, last, o, w', t'', ?_, ?_, e3, e4⟩
  · rw [Nat.add_assoc, runNT_add, h]; exact e1
  · rw [runN_add, ← runNT_fst P N m t, h]; exact e2
end

section
variable [Payload] {K : Cst} {End Anch : Goroutine → World → Prop} {ns bs : List Value} {rs : List (Value × Value)} {a : Goroutine} {w : World} {t : Trace} {D : World → World → Array Event → Prop} {Post : Value → World → Prop}
/-- ████ FROM THE FIRST go STATEMENT TO THE RETURN. ████ -/
theorem crew_ends (hA : ∀ g w, Anch g w → g.status = .running) (hAn : ∀ g₁ w₁, Anch g₁ w₁ → ∃ m, Goes K.P true (Rly K 0) (DM K) (AtW1M K (fun g w' => Kept K w w' → w'.heap[K.Lb]? = some K.lost → GoesW K.P true D (AtEndS K.P (Shn K) Post) g w') Anch) m g₁ w₁) (G : Geo K)
    (hD : ∀ w w' es, D w w' es → ∀ e ∈ es, EvS (Shn K) e) (hn : ns = rs.map Prod.fst) (hb : bs = rs.map Prod.snd) (hf : AtFork K Anch ns bs rs 3 a w) (ht : ∀ op ∈ t, op.g = 0) (hdf : Deaf t 0 = 0) (hnr : NoRelease (stA K.Wg) t)
    (hwg : WgAt K.ty K.Wg w (3 * KK) 0) (hl0 : w.heap[K.Lb]? = some K.lost0) (hcn : chA K.cN false w) (hcb : chA K.cB false w) : EndsGood K.P Post (solo a w) t := by
  have hs : Sys K ns bs rs w (3 - (2 + 1)) #[a] w (fun _ => ⟨7, 0, 0⟩) (ini ns bs rs) := by
    refine ⟨rfl, fun i hi => by omega, fun i _ _ => ⟨rfl, rfl⟩, .inl ⟨false, by rw [hn]; rfl, by simp⟩, .inl ⟨false, by rw [hb]; rfl⟩, hcn, hcb, ⟨(fun e => by cases e), fun _ => hl0⟩, ⟨⟨rfl, rfl, rfl⟩, Nat.le_refl _, fun _ _ _ _ _ _ => rfl⟩⟩
  have htr : Tr K t.size (3 - (2 + 1)) w t (fun _ => ⟨7, 0, 0⟩) 0 := ⟨TL.start ht, hnr, hdf, fun i hi => Deaf_absent fun q op ho => by rw [ht op (Array.mem_of_getElem? ho)]; omega, fun i hi h6 => by simp at h6⟩
  have hmode : Go.ConcN.Mode 3 (fun _ => (⟨7, 0, 0⟩ : WD)) (.sp 2 5) (3 * KK) 0 := by
    have := Go.ConcN.Mode.opn (j := 3) (D := fun _ => (⟨7, 0, 0⟩ : WD)) (tag := .sp 2 5) trivial (fun i hi => .inl rfl) (by simp)
    simpa [Vc, sumTo, cnt, pend] using this
  obtain ⟨hrun, a', child, hsp, hwk0, m, hk⟩ := hf
  obtain ⟨m₂, hwk⟩ := hwk0 hl0
  obtain ⟨m₁, ops, μ', h1, -, h3⟩ := cFork (sl := none) (f0 := 0) (End := fun g w' => Kept K w w' → w'.heap[K.Lb]? = some K.lost → GoesW K.P true D (AtEndS K.P (Shn K) Post) g w') G (r := 2) (by omega) (by rfl) hs htr hwg hmode hsp hwk hk
  obtain ⟨N, m', t', e1, gs, w', sl, a'', q, rfl, h0, hend, hkept, hlost, hL, hP⟩ := crew_runs hA hAn G μ' m₁ _ h3
  have hrest : EndsGood K.P Post (crowd gs w' sl) t' := beside_endsW hD (hend hkept hlost) (sumTo gs.size q + 1) gs w' sl t' q ⟨w'.drawn, rfl⟩ (by omega) h0 hL hP
  exact EndsGood.step ((stepT_solo hrun).trans h1) (EndsGood.after e1 hrest)
end
end Go.Proofs.Ytmoajpkgdimdaaa
