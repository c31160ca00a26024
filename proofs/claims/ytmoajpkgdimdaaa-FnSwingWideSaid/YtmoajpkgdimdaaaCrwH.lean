/- Three workers and their starter: whatever step of a worker's keeps the invariant. -/
import Derived.Test.YtmoajpkgdimdaaaCrwG
set_option linter.unusedSectionVars false
set_option linter.unusedVariables false
namespace Go.Proofs.Ytmoajpkgdimdaaa
open Go.Conc Go.ConcN
open Go.ConcR (KK wgBlock WgAt stA smA rd wr mk Payload DC0 Bk g_of_ofEvents bk_of_mute ofEvent_loc_mark)
variable [Payload]

section
variable {K : Cst} {End Anch : Goroutine → World → Prop} {ns bs : List Value} {rs : List (Value × Value)} {W0 : World}
  {gs : Array Goroutine} {w w' : World} {sl : Option (Nat × Nat)} {j p i : Nat} {D D' : Nat → WD} {ph ph' : Nat → Ph} {tag : CTag} {f0 d0 : Nat} {a g g' g₂ : Goroutine} {t : Trace} {st sm : Int} {es : Array Event}

/-- The release. -/
theorem wRel (hA : ∀ g w, Anch g w → g.status = .running) (G : Geo K) (hj : 1 ≤ j) (ha : gs[0]? = some a) (hm : MS K End Anch ns bs rs tag j f0 d0 a w) (hs : Sys K ns bs rs W0 j gs w D ph) (hwg : WgAt K.ty K.Wg w st sm) (hmode : Go.ConcN.Mode 3 D tag st sm) (htr : Tr K p j w t D d0)
    (hi : i < j) (hg : gs[i + 1]? = some g) (hp : ph i = .rel) (h7 : (D i).stage = 7) (h0 : (D i).deaf = 0) (hat : At0 K (i + 1) g w) : WGoal K End Anch ns bs rs W0 gs w sl i t D ph tag f0 := by
  have hj3 := hm.size
  obtain ⟨⟨-, hhas, g', hgo, m, hk⟩, hlost⟩ := hat
  have hph' : ∀ i', i' ≠ i → upd ph i .lib i' = ph i' := fun i' h1 => upd_ne _ _ h1
  have hrk := rks_upd (ph := ph) (Q := .lib) (show i < 3 by omega)
  rw [hp] at hrk
  simp [Ph.rk] at hrk
  have fin : ∀ i', (upd ph i .lib i').fin = (ph i').fin := fun i' => by
    by_cases e : i' = i
    · subst e; rw [upd_same, hp]; rfl
    · rw [hph' i' e]
  have hcn : chA K.cN (upd ph i .lib 0).fin w := by rw [fin]; exact hs.chn
  have hcb : chA K.cB (upd ph i .lib 1).fin w := by rw [fin]; exact hs.chb
  have hn : okN (upd ph i .lib 0) (upd ph i .lib 2) := by
    have h := hs.okn
    match i, hi, hp with
    | 0, _, hp =>
      rw [upd_same, upd_ne _ _ (by omega)]
      rw [hp] at h
      cases e : ph 2 <;> rw [e] at h <;> simp [okN, Ph.fin] at h ⊢ <;> exact h
    | 1, _, _ => rw [upd_ne _ _ (by omega), upd_ne _ _ (by omega)]; exact h
    | 2, _, hp => rw [upd_same, upd_ne _ _ (by omega)]; rw [hp] at h; exact h
    | q + 3, _, _ => omega
  have hb : okB (upd ph i .lib 1) (upd ph i .lib 2) := by
    have h := hs.okb
    match i, hi, hp with
    | 1, _, hp =>
      rw [upd_same, upd_ne _ _ (by omega)]
      rw [hp] at h
      cases e : ph 2 <;> rw [e] at h <;> simp [okB, Ph.fin] at h ⊢ <;> exact h
    | 0, _, _ => rw [upd_ne _ _ (by omega), upd_ne _ _ (by omega)]; exact h
    | 2, _, hp => rw [upd_same, upd_ne _ _ (by omega)]; rw [hp] at h; exact h
    | q + 3, _, _ => omega
  refine wGo (ph' := upd ph i .lib) (x := ⟨6, m, 0⟩) hA hj ha hm hs hi hg hgo (Rly.refl w) (by rw [upd_same]; exact .lib (.k1 hk) (Nat.le_refl 6)) (oth_of G hj3 hn hb hcn hcb (fun i' _ _ => Rly.refl w) hph') (fun i' h1 h2 => hph' i' (by omega)) hn hb hcn hcb ⟨fun e => ?_, hs.lost.2⟩ hs.kept
    (htr.release G hi hj3 h0 _ _) hwg (fun _ ht _ => (hmode.counted (i := i) (show i < 3 by omega) (by omega) (.inl rfl) m 0).retag ht) (.inl ⟨?_, ?_⟩)
  · by_cases e2 : 2 = i
    · subst e2; exact hlost rfl
    · rw [hph' 2 e2] at e; exact hs.lost.1 e
  · dsimp only; rw [h7]; omega
  · simp [cnt, h7]

set_option maxHeartbeats 1600000 in
/-- The library's text. -/
theorem wLib (hA : ∀ g w, Anch g w → g.status = .running) (G : Geo K) (hj : 1 ≤ j) (ha : gs[0]? = some a) (hm : MS K End Anch ns bs rs tag j f0 d0 a w) (hs : Sys K ns bs rs W0 j gs w D ph) (hwg : WgAt K.ty K.Wg w st sm) (hmode : Go.ConcN.Mode 3 D tag st sm) (htr : Tr K p j w t D d0)
    (hi : i < j) (hg : gs[i + 1]? = some g) (hp : ph i = .lib) (hrun : g.status = .running) (hsit : WSit K.P K.ty K.Wg K.C 3 (fun _ _ => False) (fun _ _ => False) 0 (i + 1) (K.val i) (D i).stage (D i).fuel (D i).deaf g w) (h6 : (D i).stage ≤ 6) : WGoal K End Anch ns bs rs W0 gs w sl i t D ph tag f0 := by
  have hj3 := hm.size
  have hi3 : i < 3 := by omega
  generalize hst : (D i).stage = s at hsit
  generalize hfu : (D i).fuel = m at hsit
  generalize hde : (D i).deaf = dd at hsit
  have hVj := Vc_le 3 D
  have bookG : ∀ {g' : Goroutine} {w' : World} {es : Array Event} {s' m' dd' : Nat} {st' sm' : Int}, stepG K.P false g w = .go g' w' es → Aside K.Wg w w' → WgAt K.ty K.Wg w' st' sm' → (∀ e ∈ es, Bk K.Wg e) →
      (∀ jx e, es[jx]? = some e → (MemAct.ofEvent e).touch? = none ∨ 0 < deafBehind dd (es.extract 0 jx)) → WSit K.P K.ty K.Wg K.C 3 (fun _ _ => False) (fun _ _ => False) 0 (i + 1) (K.val i) s' m' dd' g' w' → s' ≤ 6 → deafBehind dd es = dd' →
      (∀ tag', (tag' = tag ∨ (tag = .blk ∧ tag' = .w3)) → (mayWake K.P g = true → g'.status = .running → tag' ≠ .blk) → Go.ConcN.Mode 3 (upd D i ⟨s', m', dd'⟩) tag' st' sm') → ((s' < s ∧ cnt ⟨s', m', dd'⟩ ≤ cnt (D i)) ∨ (s' = s ∧ m' + 1 = m)) → WGoal K End Anch ns bs rs W0 gs w sl i t D ph tag f0 := by
    intro g' w' es s' m' dd' st' sm' hgo hAs hwg' hbk hd hs' h6' hdd hmode' hlt
    exact wBookG hA G hj ha hm hs htr hi hg hp hgo hAs hwg' hbk (by rw [hde]; exact hd) hs' h6' (by rw [hde]; exact hdd) h6 hmode' (by rw [hst, hfu]; exact hlt)
  have book : ∀ {g' : Goroutine} {w' : World} {es : Array Event} {s' m' dd' : Nat} {st' sm' : Int}, stepG K.P false g w = .go g' w' es → Aside K.Wg w w' → WgAt K.ty K.Wg w' st' sm' → (∀ e ∈ es, Bk K.Wg e) →
      (∀ jx e, es[jx]? = some e → (MemAct.ofEvent e).touch? = none ∨ 0 < deafBehind dd (es.extract 0 jx)) → WSit K.P K.ty K.Wg K.C 3 (fun _ _ => False) (fun _ _ => False) 0 (i + 1) (K.val i) s' m' dd' g' w' → s' ≤ 6 → deafBehind dd es = dd' →
      Go.ConcN.Mode 3 (upd D i ⟨s', m', dd'⟩) tag st' sm' → ((s' < s ∧ cnt ⟨s', m', dd'⟩ ≤ cnt (D i)) ∨ (s' = s ∧ m' + 1 = m)) → WGoal K End Anch ns bs rs W0 gs w sl i t D ph tag f0 :=
    fun hgo hAs hwg' hbk hd hs' h6' hdd hmode' hlt => bookG hgo hAs hwg' hbk hd hs' h6' hdd (fun _ ht _ => hmode'.retag ht) hlt
  have idle : ∀ {g' : Goroutine} {m' : Nat}, stepG K.P false g w = .go g' w #[] → WSit K.P K.ty K.Wg K.C 3 (fun _ _ => False) (fun _ _ => False) 0 (i + 1) (K.val i) s m' dd g' w → m' + 1 = m → s ≤ 6 → WGoal K End Anch ns bs rs W0 gs w sl i t D ph tag f0 := by
    intro g' m' hgo hs' hm h6
    exact book hgo (.refl K.Wg w) hwg (by simp) (by simp) hs' h6 rfl (by have := hmode.same (i := i) m' dd; rwa [hst] at this) (.inr ⟨rfl, hm⟩)
  cases hsit with
  | r0 h => omega
  | k1 h =>
    rcases Goes.cases h with hstop | ⟨m', rfl, hstep⟩
    · obtain ⟨_, g', hgo, m₂, hk⟩ := hstop w (RW.refl w)
      exact book hgo (.refl K.Wg w) hwg (by intro e he; simp at he; subst he; exact .inl rfl) (by intro jx e he; exact .inl (by have := Array.mem_of_getElem? he; simp at this; subst this; rfl)) (.d1 hk) (by omega) rfl
        (hmode.counted hi3 (by omega) (.inr rfl) _ _) (.inl ⟨by omega, by simp [cnt, hst]⟩)
    · obtain ⟨g', w', es, hgo, ⟨rfl, rfl⟩, hg'⟩ := hstep w (RW.refl w)
      exact idle hgo (.k1 hg') rfl (by omega)
  | d1 h =>
    rcases Goes.cases h with hstop | ⟨m', rfl, hstep⟩
    · obtain ⟨_, hall⟩ := hstop w (RW.refl w)
      have hc1 : cnt (D i) = 1 := by simp [cnt, hst]
      have hV1 : 1 ≤ Vc 3 D := by have := le_sumTo (f := fun x => cnt (D x)) hi3; simp only [Vc]; omega
      have bk2 : ∀ e ∈ #[rd (stA K.Wg), wr (stA K.Wg)], Bk K.Wg e := by intro e he; simp at he; rcases he with rfl | rfl <;> exact bk_cell _ _ rfl
      have df2 : ∀ jx e, (#[rd (stA K.Wg), wr (stA K.Wg)] : Array Event)[jx]? = some e → (MemAct.ofEvent e).touch? = none ∨ 0 < deafBehind 1 ((#[rd (stA K.Wg), wr (stA K.Wg)] : Array Event).extract 0 jx) := by
        intro jx e he
        match jx, he with
        | 0, _ => exact .inr (by simp [deafBehind])
        | 1, _ => exact .inr (by simp [deafBehind, rd])
        | jx + 2, he => simp at he
      have hq0 : ∀ q, cnt (⟨1, q, 1⟩ : WD) = 0 := fun _ => rfl
      have opq : ∀ q, OpenSt 3 D → OpenSt 3 (upd D i ⟨1, q, 1⟩) := fun q h a ha => by
        by_cases e : a = i
        · subst e; rw [upd_same]; simp
        · rw [upd_ne D _ e]; exact h a ha
      cases hmode with
      | opn h1 h2 h3 =>
        obtain ⟨v, hv⟩ : ∃ v, Vc 3 D + pend tag = v + 1 := ⟨Vc 3 D + pend tag - 1, by omega⟩
        have hpe := hm.pend0.1
        rw [hv] at hwg
        have hw1 : WgAt K.ty K.Wg w (((v : Nat) + 1) * KK + ((0 : Nat) : Int)) 0 := by simpa using hwg
        obtain ⟨g', hgo, _, hq⟩ := hall v 0 (by omega) (by omega) hw1
        obtain ⟨q, hq⟩ := hq (by omega)
        have hv' : Vc 3 (upd D i ⟨1, q, 1⟩) + pend tag = v := by have := Vc_upd D (⟨1, q, 1⟩ : WD) hi3; have := hq0 q; omega
        refine book hgo (aside_setCell w (stA K.Wg) _) (hwg.setSt _) bk2 df2 (.quit hq) (by omega) rfl ?_ (.inl ⟨by omega, by simp [cnt]⟩)
        have e : ((v : Nat) : Int) * KK + ((0 : Nat) : Int) = ((Vc 3 (upd D i ⟨1, q, 1⟩) + pend tag : Nat) : Int) * KK := by rw [hv']; simp
        rw [e]
        exact .opn h1 (opq q h2) (fun vs ev => by have := h3 vs ev; omega)
      | reg h1 h2 h3 =>
        obtain ⟨v, hv⟩ : ∃ v, Vc 3 D = v + 1 := ⟨Vc 3 D - 1, by omega⟩
        rw [hv] at hwg
        have hw1 : WgAt K.ty K.Wg w (((v : Nat) + 1) * KK + ((1 : Nat) : Int)) 0 := by simpa using hwg
        obtain ⟨g', hgo, hl, hq⟩ := hall v 1 (by omega) (by omega) hw1
        by_cases hv0 : v = 0
        · subst hv0
          obtain ⟨m₂, hk⟩ := hl ⟨rfl, rfl⟩
          refine book hgo (aside_setCell w (stA K.Wg) _) (hwg.setSt _) bk2 df2 (.d2 hk) (by omega) rfl ?_ (.inl ⟨by omega, by simp [cnt]⟩)
          have hoth : ∀ a, a < 3 → a ≠ i → (D a).stage = 1 := fun a ha e => by
            have c0 := others_uncounted hi3 hv hc1 a ha e
            have := h2 a ha
            simp only [cnt] at c0
            split at c0 <;> omega
          have := Mode.last (j := 3) (D := upd D i ⟨4, m₂, 1⟩) (tag := tag) i h1 hi3 (by rw [upd_same]; simp) (fun a ha e => by rw [upd_ne D _ e]; exact hoth a ha e)
          rw [upd_same] at this
          simpa using this
        · obtain ⟨q, hq⟩ := hq (by omega)
          have hv' : Vc 3 (upd D i ⟨1, q, 1⟩) = v := by have := Vc_upd D (⟨1, q, 1⟩ : WD) hi3; have := hq0 q; omega
          refine book hgo (aside_setCell w (stA K.Wg) _) (hwg.setSt _) bk2 df2 (.quit hq) (by omega) rfl ?_ (.inl ⟨by omega, by simp [cnt]⟩)
          have e : ((v : Nat) : Int) * KK + ((1 : Nat) : Int) = ((Vc 3 (upd D i ⟨1, q, 1⟩) : Nat) : Int) * KK + 1 := by rw [hv']; simp
          rw [e]
          exact .reg h1 (opq q h2) (by omega)
      | last L _ h2 h3 h4 =>
        by_cases e : i = L
        · subst e; omega
        · have := h4 i hi3 e; omega
      | sema h2 => have := h2 i hi3; omega
      | fin _ h2 => have := h2 i hi3; omega
    · obtain ⟨g', w', es, hgo, ⟨rfl, rfl⟩, hg'⟩ := hstep w (RW.refl w)
      exact idle hgo (.d1 hg') rfl (by omega)
  | d2 h =>
    rcases Goes.cases h with hstop | ⟨m', rfl, hstep⟩
    · obtain ⟨_, hx⟩ := hstop w (RW.refl w)
      obtain ⟨hW3, hoth, rfl, rfl⟩ := hmode.isLast hi3 (by omega)
      simp only [hst] at hwg
      obtain ⟨g', hgo, m₂, hk⟩ := hx (by simpa using hwg)
      refine book hgo (.refl K.Wg w) hwg (by intro e he; simp at he; subst he; exact bk_cell _ _ rfl) (by intro jx e he; match jx, he with | 0, _ => exact .inr (by simp [deafBehind]) | jx + 1, he => simp at he) (.d3 hk) (by omega) rfl ?_ (.inl ⟨by omega, by simp [cnt]⟩)
      have := Mode.last (j := 3) (D := upd D i ⟨3, m₂, 1⟩) (tag := tag) i hW3 hi3 (by rw [upd_same]; simp) (fun a ha e => by rw [upd_ne D _ e]; exact hoth a ha e)
      rw [upd_same] at this
      simpa using this
    · obtain ⟨g', w', es, hgo, ⟨rfl, rfl⟩, hg'⟩ := hstep w (RW.refl w)
      exact idle hgo (.d2 hg') rfl (by omega)
  | d3 h =>
    rcases Goes.cases h with hstop | ⟨m', rfl, hstep⟩
    · obtain ⟨_, hx⟩ := hstop w (RW.refl w)
      obtain ⟨hW3, hoth, rfl, rfl⟩ := hmode.isLast hi3 (by omega)
      simp only [hst] at hwg
      obtain ⟨g', hgo, m₂, hk⟩ := hx (by simpa using hwg)
      refine book hgo (aside_setCell w (stA K.Wg) _) (hwg.setSt 0) (by intro e he; simp at he; subst he; exact bk_cell _ _ rfl) (by intro jx e he; match jx, he with | 0, _ => exact .inr (by simp [deafBehind]) | jx + 1, he => simp at he) (.d4 hk) (by omega) rfl ?_ (.inl ⟨by omega, by simp [cnt]⟩)
      have := Mode.last (j := 3) (D := upd D i ⟨2, m₂, 1⟩) (tag := tag) i hW3 hi3 (by rw [upd_same]; simp) (fun a ha e => by rw [upd_ne D _ e]; exact hoth a ha e)
      rw [upd_same] at this
      simpa using this
    · obtain ⟨g', w', es, hgo, ⟨rfl, rfl⟩, hg'⟩ := hstep w (RW.refl w)
      exact idle hgo (.d3 hg') rfl (by omega)
  | d4 h =>
    rcases Goes.cases h with hstop | ⟨m', rfl, hstep⟩
    · obtain ⟨_, hmw, hx⟩ := hstop w (RW.refl w)
      obtain ⟨hW3, hoth, rfl, rfl⟩ := hmode.isLast hi3 (by omega)
      simp only [hst] at hwg
      obtain ⟨g', hgo, q, hq⟩ := hx (by simpa using hwg)
      have hrun' : g'.status = .running := by
        cases q with
        | zero => exact absurd hq.2 (by decide)
        | succ q => exact hq.elim (fun x => absurd x.2 (by decide)) (fun x => x.1)
      refine bookG hgo (aside_setCell w (smA K.Wg) _) (hwg.setSm 1) (es := semEvents (smA K.Wg)) ?_ ?_ (.quit hq) (by omega) (by simp [deafBehind, semEvents]) ?_ (.inl ⟨by omega, by simp [cnt]⟩)
      · intro e he
        simp [semEvents] at he
        rcases he with rfl | rfl | rfl | rfl
        · exact .inl rfl
        · exact bk_cell _ _ rfl
        · exact bk_cell _ _ rfl
        · exact .inr (.inl rfl)
      · intro jx e he
        match jx, he with
        | 0, he => simp [semEvents] at he; subst he; exact .inl rfl
        | 1, _ => exact .inr (by simp [deafBehind, semEvents])
        | 2, _ => exact .inr (by simp [deafBehind, semEvents])
        | 3, he => simp [semEvents] at he; subst he; exact .inl rfl
        | jx + 4, he => simp [semEvents] at he
      · intro tag' ht hw
        have hnb := hw hmw hrun'
        have e3 : tag' = .w3 := by
          rcases ht with rfl | ⟨_, rfl⟩
          · cases tag' <;> first | rfl | exact hW3.elim | exact absurd rfl hnb
          · rfl
        subst e3
        simp only [if_true]
        exact .sema fun a ha => by
          by_cases e : a = i
          · subst e; rw [upd_same]
          · rw [upd_ne D _ e]; exact hoth a ha e
    · obtain ⟨g', w', es, hgo, ⟨rfl, rfl⟩, hg'⟩ := hstep w (RW.refl w)
      exact idle hgo (.d4 hg') rfl (by omega)
  | quit h =>
    cases m with
    | zero => rw [h.1] at hrun; cases hrun
    | succ q =>
      rcases h with ⟨hf, _⟩ | ⟨_, g', es, hmute, hstep, hq⟩
      · rw [hf] at hrun; cases hrun
      · have hbk : ∀ e ∈ es, Bk K.Wg e := fun e he => bk_of_mute (hmute e he)
        have hno : ∀ jx e, es[jx]? = some e → (MemAct.ofEvent e).touch? = none ∨ 0 < deafBehind dd (es.extract 0 jx) := fun jx e he => .inl (by
          rcases bk_of_mute (Wg := K.Wg) (hmute e (Array.mem_of_getElem? he)) with h1 | h1 | ⟨a, wr, rfl, _⟩
          · rw [ofEvent_loc_mark h1]; rfl
          · rw [ofEvent_loc_mark h1]; rfl
          · have := hmute _ (Array.mem_of_getElem? he); simp [Event.mute] at this)
        exact book (hstep w) (.refl K.Wg w) hwg hbk hno (.quit hq) (by omega) rfl (by have := hmode.same (i := i) q (deafBehind dd es); rwa [hst] at this) (.inr ⟨rfl, rfl⟩)

/-- ████ WHATEVER STEP OF A WORKER's. ████ -/
theorem wStep (hA : ∀ g w, Anch g w → g.status = .running) (G : Geo K) (hj : 1 ≤ j) (ha : gs[0]? = some a) (hm : MS K End Anch ns bs rs tag j f0 d0 a w) (hs : Sys K ns bs rs W0 j gs w D ph) (hwg : WgAt K.ty K.Wg w st sm) (hmode : Go.ConcN.Mode 3 D tag st sm) (htr : Tr K p j w t D d0)
    (hi : i < j) (hg : gs[i + 1]? = some g) (hrun : g.status = .running) : WGoal K End Anch ns bs rs W0 gs w sl i t D ph tag f0 := by
  have hj3 := hm.size
  obtain ⟨g₁, hg₁, hw⟩ := hs.wk i hi
  obtain rfl : g = g₁ := by rw [hg] at hg₁; exact Option.some.inj hg₁
  by_cases hl : ph i = .lib
  · have hw' := hw
    rw [hl] at hw'
    have h6 := hw'.stage6
    have hh : ∀ {s m d : Nat}, WS K (i + 1) (chOf K i) (zOf K i) .lib s m d g w → WSit K.P K.ty K.Wg K.C 3 (fun _ _ => False) (fun _ _ => False) 0 (i + 1) (K.val i) s m d g w := by
      intro s m d h
      cases h with
      | lib h _ => exact h
    exact wLib hA G hj ha hm hs hwg hmode htr hi hg hl hrun (hh hw') h6
  · obtain ⟨h7, h0⟩ := hw.stage7 hl
    rw [h7, h0] at hw
    generalize hp : ph i = Q at hw hl
    generalize hfu : (D i).fuel = m at hw
    have rn : Rly K (i + 1) w w := Rly.refl w
    cases hw with
    | snd h =>
      have hi01 : i = 0 ∨ i = 1 := by
        rcases Nat.lt_or_ge i 2 with h | h
        · omega
        · obtain rfl : i = 2 := by omega
          exact absurd hp (hs.ph2 _ _)
      rcases Goes.cases h with hstop | ⟨m', rfl, hstep⟩
      · rename_i l
        cases l with
        | nil => exact wClose hA G hj ha hm hs hwg hmode htr hi hg hp h7 h0 (hstop w rn)
        | cons v l =>
          obtain ⟨-, g₂, es, hb, hst, hev, m, hgo⟩ := hstop w rn
          rcases hi01 with h | h
          · exact wSendN hA G hj ha hm hs hwg hmode htr h hi hg hp h7 h0 hb hst hev hgo
          · exact wSendB hA G hj ha hm hs hwg hmode htr h hi hg hp h7 h0 hb hst hev hgo
      · obtain ⟨g', w', es, hgo, hgu, hg'⟩ := hstep w rn
        exact wIdle hA G hj ha hm hs hwg hmode htr hi hg hgo hgu (by rw [hp]; simp) h7 h0 hfu (by rw [hp]; exact .snd hg')
    | sndP h => cases hrun
    | nar e h =>
      have hi2 : i = 2 := by omega
      subst hi2
      rcases Goes.cases h with hstop | ⟨m', rfl, hstep⟩
      · rename_i l
        cases l with
        | nil => exact wRecv0 hA G hj ha hm hs hwg hmode htr rfl hi hg hp h7 h0 hstop
        | cons x l =>
          obtain ⟨-, g₂, es, hb, hst, hev, m, hgo⟩ := hstop w rn
          exact wRecvN hA G hj ha hm hs hwg hmode htr rfl hi hg hp h7 h0 hb hst hev hgo
      · obtain ⟨g', w', es, hgo, hgu, hg'⟩ := hstep w rn
        exact wIdle hA G hj ha hm hs hwg hmode htr hi hg hgo hgu (by rw [hp]; simp) h7 h0 hfu (by rw [hp]; exact .nar rfl hg')
    | narP e h => cases hrun
    | narP0 e h => cases hrun
    | brd e h =>
      have hi2 : i = 2 := by omega
      subst hi2
      rcases Goes.cases h with hstop | ⟨m', rfl, hstep⟩
      · obtain ⟨-, g₂, es, hb, hst, hev, m, hgo⟩ := hstop w rn
        exact wRecvB hA G hj ha hm hs hwg hmode htr rfl hi hg hp h7 h0 hb hst hev hgo
      · obtain ⟨g', w', es, hgo, hgu, hg'⟩ := hstep w rn
        exact wIdle hA G hj ha hm hs hwg hmode htr hi hg hgo hgu (by rw [hp]; simp) h7 h0 hfu (by rw [hp]; exact .brd rfl hg')
    | brdP e h => cases hrun
    | rel h =>
      rcases Goes.cases h with hstop | ⟨m', rfl, hstep⟩
      · exact wRel hA G hj ha hm hs hwg hmode htr hi hg hp h7 h0 (hstop w rn)
      · obtain ⟨g', w', es, hgo, hgu, hg'⟩ := hstep w rn
        exact wIdle hA G hj ha hm hs hwg hmode htr hi hg hgo hgu (by rw [hp]; simp) h7 h0 hfu (by rw [hp]; exact .rel hg')
    | lib _ _ => exact absurd rfl hl
end
end Go.Proofs.Ytmoajpkgdimdaaa
