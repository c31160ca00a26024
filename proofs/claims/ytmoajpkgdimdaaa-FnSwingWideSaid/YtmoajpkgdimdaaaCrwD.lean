/- Three workers and their starter: a worker's own steps. -/
import Derived.Test.YtmoajpkgdimdaaaCrwC
set_option linter.unusedSectionVars false
set_option linter.unusedVariables false
namespace Go.Proofs.Ytmoajpkgdimdaaa
open Go.Conc Go.ConcN
open Go.ConcR (KK wgBlock WgAt stA smA rd wr Payload DC0 Bk g_of_ofEvents bk_of_mute ofEvent_loc_mark)
variable [Payload]

section
variable {K : Cst} {End Anch : Goroutine → World → Prop} {ns bs : List Value} {rs : List (Value × Value)} {W0 : World}
  {gs : Array Goroutine} {w w' : World} {sl : Option (Nat × Nat)} {j p i : Nat} {D : Nat → WD} {ph ph' : Nat → Ph} {tag : CTag} {f0 d0 : Nat} {a g g' : Goroutine} {t : Trace} {st sm st' sm' : Int} {es : Array Event} {x : WD}

theorem mu_lt {tag' : CTag} {f' : Nat} (hi : i < 3) (hf : f' ≤ f0 + 1) (ht : tag' = tag ∨ (tag = .blk ∧ tag' = .w3))
    (hlt : (x.stage + rks ph' < (D i).stage + rks ph ∧ cnt x ≤ cnt (D i)) ∨ (x.stage = (D i).stage ∧ rks ph' = rks ph ∧ x.fuel + 1 = (D i).fuel)) : Lt2 (Mu ph' (upd D i x) tag' f') (Mu ph D tag f0) := by
  have e1 := sumTo_upd D x cnt hi
  have e2 := sumTo_upd D x WD.stage hi
  have e3 := sumTo_upd D x WD.fuel hi
  unfold Mu
  rw [phi_retag 3 _ ht]
  simp only [Vc, Ssum, Fsum] at *
  rcases hlt with ⟨h1, h2⟩ | ⟨h1, h2, h3⟩
  · refine Prod.Lex.left _ _ ?_
    have := phi_mono 3 (v' := sumTo 3 fun a => cnt (upd D i x a)) (v := sumTo 3 fun a => cnt (D a)) (by omega) tag
    omega
  · have ec : cnt x = cnt (D i) := by simp only [cnt, h1]
    have ev : (sumTo 3 fun a => cnt (upd D i x a)) = sumTo 3 fun a => cnt (D a) := by omega
    have es' : (sumTo 3 fun a => (upd D i x a).stage) = sumTo 3 fun a => (D a).stage := by omega
    rw [ev, es', h2]
    refine Prod.Lex.right _ ?_
    omega

/-- WHATEVER STEP OF WORKER i's OWN. -/
theorem wGo (hA : ∀ g w, Anch g w → g.status = .running) (hj : 1 ≤ j) (ha : gs[0]? = some a) (hm : MS K End Anch ns bs rs tag j f0 d0 a w) (hs : Sys K ns bs rs W0 j gs w D ph)
    (hi : i < j) (hg : gs[i + 1]? = some g) (hgo : stepG K.P false g w = .go g' w' es) (hr0 : Rly K 0 w w')
    (hw : WS K (i + 1) (chOf K i) (zOf K i) (ph' i) x.stage x.fuel x.deaf g' w')
    (hoth : ∀ i', i' < j → i' ≠ i → ∀ gi, WS K (i' + 1) (chOf K i') (zOf K i') (ph i') (D i').stage (D i').fuel (D i').deaf gi w → WS K (i' + 1) (chOf K i') (zOf K i') (ph' i') (D i').stage (D i').fuel (D i').deaf (woken K.P g g' w' gi) w')
    (hidle : ∀ i', j ≤ i' → i' < 3 → ph' i' = ph i') (hn : okN (ph' 0) (ph' 2)) (hb : okB (ph' 1) (ph' 2)) (hcn : chA K.cN (ph' 0).fin w') (hcb : chA K.cB (ph' 1).fin w') (hl : (ph' 2 = .lib → w'.heap[K.Lb]? = some K.lost) ∧ (j < 3 → w'.heap[K.Lb]? = some K.lost0)) (hk : Kept K W0 w')
    (htr : Tr K p j w' (t ++ MemOp.ofEvents (i + 1) g.frame.fn g.frame.place es) (upd D i x) d0) (hwg : WgAt K.ty K.Wg w' st' sm')
    (hmode : ∀ tag', (tag' = tag ∨ (tag = .blk ∧ tag' = .w3)) → (mayWake K.P g = true → g'.status = .running → tag' ≠ .blk) → Go.ConcN.Mode 3 (upd D i x) tag' st' sm')
    (hlt : (x.stage + rks ph' < (D i).stage + rks ph ∧ cnt x ≤ cnt (D i)) ∨ (x.stage = (D i).stage ∧ rks ph' = rks ph ∧ x.fuel + 1 = (D i).fuel)) :
    ∃ m₁ ops μ', runT K.P (crowd gs w sl) (i + 1) = (.next m₁, ops) ∧ Lt2 μ' (Mu ph D tag f0) ∧ CInv K End Anch ns bs rs W0 μ' m₁ (t ++ ops) := by
  obtain ⟨tag', f', hm', hf', htag, hwk⟩ := hm.wokenBy hA hr0 g g'
  have hrun := runT_crowd_go (P := K.P) (sl := sl) (i := i + 1) hg (by simpa using hgo)
  have hj3 := hm.size
  refine ⟨_, _, Mu ph' (upd D i x) tag' f', hrun, mu_lt (by omega) hf' htag hlt, _, w', sl, j, p, upd D i x, ph', tag', f', d0, woken K.P g g' w' a, st', sm', rfl, hj, by rw [get_map_set _ _ _ _ (by omega), ha]; rfl, hm', ?_, hwg, hmode tag' htag hwk, htr, rfl⟩
  refine ⟨by simp [hs.size], fun i' hi' => ?_, fun i' h1 h2 => ?_, hn, hb, hcn, hcb, hl, hk⟩
  · by_cases e : i' = i
    · subst e
      exact ⟨g', get_map_set_same _ _ _ (by rw [hs.size]; omega), by rw [upd_same]; exact hw⟩
    · obtain ⟨gi, hgi, hwi⟩ := hs.wk i' hi'
      refine ⟨woken K.P g g' w' gi, by rw [get_map_set _ _ _ _ (by omega), hgi]; rfl, ?_⟩
      rw [upd_ne D _ e]
      exact hoth i' hi' e gi hwi
  · rw [upd_ne D _ (by omega), hidle i' h1 h2]
    exact hs.idle i' h1 h2

/-- Whoever is parked is parked at an open channel. -/
theorem open_of (hn : okN (ph 0) (ph 2)) (hb : okB (ph 1) (ph 2)) (hcn : chA K.cN (ph 0).fin w) (hcb : chA K.cB (ph 1).fin w) (hi : i < 3) :
    (∀ l, ph i = .snd l true → OpenAt w (chOf K i)) ∧ (∀ l, ph i = .nar l true → OpenAt w K.cN) ∧ (∀ b l, ph i = .brd b l true → OpenAt w K.cB) := by
  have on : (ph 0).fin = false → OpenAt w K.cN := fun e => by rw [e] at hcn; exact hcn
  have ob : (ph 1).fin = false → OpenAt w K.cB := fun e => by rw [e] at hcb; exact hcb
  match i, hi with
  | 0, _ =>
    refine ⟨fun l e => on (by rw [e]; rfl), fun l e => on (by rw [e]; rfl), fun b l e => ?_⟩
    exfalso
    rw [e] at hn
    cases e2 : ph 2 <;> rw [e2] at hn <;> simp [okN, Ph.fin] at hn
  | 1, _ =>
    refine ⟨fun l e => ob (by rw [e]; rfl), fun l e => ?_, fun b l e => ob (by rw [e]; rfl)⟩
    exfalso
    rw [e] at hb
    cases e2 : ph 2 <;> rw [e2] at hb <;> simp [okB, Ph.fin] at hb
  | 2, _ =>
    refine ⟨fun l e => ?_, fun l e => ?_, fun b l e => ?_⟩
    · rw [e] at hn; exact hn.elim
    · rw [e] at hn
      rcases hn with ⟨q, e0, _⟩ | ⟨_, _, h⟩
      · exact on (by rw [e0]; rfl)
      · cases h
    · rw [e] at hb
      obtain ⟨q, e0, _⟩ := hb
      exact ob (by rw [e0]; rfl)

/-- The others, where they only suffer. -/
theorem oth_of (G : Geo K) (hj : j ≤ 3) (hn : okN (ph' 0) (ph' 2)) (hb : okB (ph' 1) (ph' 2)) (hcn : chA K.cN (ph' 0).fin w') (hcb : chA K.cB (ph' 1).fin w') (hr : ∀ i', i' < 3 → i' ≠ i → Rly K (i' + 1) w w') (hp : ∀ i', i' ≠ i → ph' i' = ph i') :
    ∀ i', i' < j → i' ≠ i → ∀ gi, WS K (i' + 1) (chOf K i') (zOf K i') (ph i') (D i').stage (D i').fuel (D i').deaf gi w → WS K (i' + 1) (chOf K i') (zOf K i') (ph' i') (D i').stage (D i').fuel (D i').deaf (woken K.P g g' w' gi) w' := by
  intro i' h1 h2 gi h
  obtain ⟨o1, o2, o3⟩ := open_of (K := K) hn hb hcn hcb (show i' < 3 by omega)
  rw [hp i' h2] at o1 o2 o3 ⊢
  rw [h.woken g g' w' o1 o2 o3]
  exact h.rely G (hr i' (by omega) h2)

/-- An own step while it works. -/
theorem wIdle (hA : ∀ g w, Anch g w → g.status = .running) (G : Geo K) (hj : 1 ≤ j) (ha : gs[0]? = some a) (hm : MS K End Anch ns bs rs tag j f0 d0 a w) (hs : Sys K ns bs rs W0 j gs w D ph) (hwg : WgAt K.ty K.Wg w st sm) (hmode : Go.ConcN.Mode 3 D tag st sm) (htr : Tr K p j w t D d0)
    (hi : i < j) (hg : gs[i + 1]? = some g) {m : Nat} (hgo : stepG K.P false g w = .go g' w' es) (hgu : Gua K (i + 1) w w' es) (hph : ph i ≠ .lib) (h7 : (D i).stage = 7) (h0 : (D i).deaf = 0) (hf : (D i).fuel = m + 1)
    (hw : WS K (i + 1) (chOf K i) (zOf K i) (ph i) 7 m 0 g' w') :
    ∃ m₁ ops μ', runT K.P (crowd gs w sl) (i + 1) = (.next m₁, ops) ∧ Lt2 μ' (Mu ph D tag f0) ∧ CInv K End Anch ns bs rs W0 μ' m₁ (t ++ ops) := by
  have hj3 := hm.size
  have old : ∀ b, b < K.H0 → b ≠ K.Lb → w'.heap[b]? = w.heap[b]? := fun b h1 h2 => hgu.old b h1 fun e => absurd e h2
  have hcn : chA K.cN (ph 0).fin w' := let ⟨s, r, tm, e⟩ := hs.chn; ⟨s, r, tm, (old _ G.n (Ne.symm G.ln)).trans e⟩
  have hcb : chA K.cB (ph 1).fin w' := let ⟨s, r, tm, e⟩ := hs.chb; ⟨s, r, tm, (old _ G.b (Ne.symm G.lB)).trans e⟩
  refine wGo (x := ⟨7, m, 0⟩) hA hj ha hm hs hi hg hgo (hgu.rly G (by omega)) hw (oth_of G hj3 hs.okn hs.okb hcn hcb (fun i' _ h => hgu.rly G (by omega)) fun _ _ => rfl) (fun _ _ _ => rfl) hs.okn hs.okb hcn hcb ⟨fun e => ?_, fun h3 => (hgu.old _ G.lb fun _ => by omega).trans (hs.lost.2 h3)⟩
    (hs.kept.of_old hgu.out hgu.size fun b h1 _ _ _ h5 => old b h1 h5)
    (htr.own G hi hj3 h7 hgu.ev hgu.typ fun i' => ?_) (hwg.of_block (old _ G.wg G.wl)) (fun _ ht _ => Mode.retag (by have := hmode.same (i := i) m 0; rwa [h7] at this) ht) (.inr ⟨h7.symm, rfl, hf.symm⟩)
  · rw [hgu.old _ G.lb fun _ => ?_]
    · exact hs.lost.1 e
    · intro e2
      obtain rfl : i = 2 := by omega
      exact hph e
  · by_cases e : i' = i
    · subst e; rw [upd_same]; exact ⟨h7.symm, h0.symm⟩
    · rw [upd_ne D _ e]; exact ⟨rfl, rfl⟩

/-- The library's text: at most the group's block turns. -/
theorem wBookG (hA : ∀ g w, Anch g w → g.status = .running) (G : Geo K) (hj : 1 ≤ j) (ha : gs[0]? = some a) (hm : MS K End Anch ns bs rs tag j f0 d0 a w) (hs : Sys K ns bs rs W0 j gs w D ph) (htr : Tr K p j w t D d0)
    (hi : i < j) (hg : gs[i + 1]? = some g) (hph : ph i = .lib) {s' m' dd' : Nat} (hgo : stepG K.P false g w = .go g' w' es) (hAs : Aside K.Wg w w') (hwg' : WgAt K.ty K.Wg w' st' sm') (hbk : ∀ e ∈ es, Bk K.Wg e)
    (hd : ∀ jx e, es[jx]? = some e → (MemAct.ofEvent e).touch? = none ∨ 0 < deafBehind (D i).deaf (es.extract 0 jx)) (hs' : WSit K.P K.ty K.Wg K.C 3 (fun _ _ => False) (fun _ _ => False) 0 (i + 1) (K.val i) s' m' dd' g' w') (h6 : s' ≤ 6)
    (hdd : deafBehind (D i).deaf es = dd') (hd6 : (D i).stage ≤ 6)
    (hmode : ∀ tag', (tag' = tag ∨ (tag = .blk ∧ tag' = .w3)) → (mayWake K.P g = true → g'.status = .running → tag' ≠ .blk) → Go.ConcN.Mode 3 (upd D i ⟨s', m', dd'⟩) tag' st' sm')
    (hlt : (s' < (D i).stage ∧ cnt ⟨s', m', dd'⟩ ≤ cnt (D i)) ∨ (s' = (D i).stage ∧ m' + 1 = (D i).fuel)) :
    ∃ m₁ ops μ', runT K.P (crowd gs w sl) (i + 1) = (.next m₁, ops) ∧ Lt2 μ' (Mu ph D tag f0) ∧ CInv K End Anch ns bs rs W0 μ' m₁ (t ++ ops) := by
  have hj3 := hm.size
  have old : ∀ b, b ≠ K.Wg → w'.heap[b]? = w.heap[b]? := fun b h => hAs.block b h
  have hcn : chA K.cN (ph 0).fin w' := let ⟨s, r, tm, e⟩ := hs.chn; ⟨s, r, tm, (old _ (Ne.symm G.wn)).trans e⟩
  have hcb : chA K.cB (ph 1).fin w' := let ⟨s, r, tm, e⟩ := hs.chb; ⟨s, r, tm, (old _ (Ne.symm G.wb)).trans e⟩
  have rl : ∀ k, Rly K k w w' := fun k => Rly.of_one G (.inl rfl) hAs.size old fun _ => ⟨_, _, hwg'⟩
  obtain ⟨r, hr⟩ := htr.rel i (by omega) hd6
  refine wGo (x := ⟨s', m', dd'⟩) hA hj ha hm hs hi hg hgo (rl 0) (by rw [hph]; exact .lib hs' h6) (oth_of G hj3 hs.okn hs.okb hcn hcb (fun i' _ h => rl _) fun _ _ => rfl) (fun _ _ _ => rfl) hs.okn hs.okb hcn hcb ⟨fun e => (old _ (Ne.symm G.wl)).trans (hs.lost.1 e), fun h3 => (old _ (Ne.symm G.wl)).trans (hs.lost.2 h3)⟩
    (hs.kept.of_old ⟨hAs.tape, hAs.os, hAs.output⟩ (by rw [hAs.size]; exact Nat.le_refl _) fun b _ h2 _ _ _ => old b h2)
    (htr.book G hi hj3 hbk (.of_one G.wg old) hdd fun _ => ⟨r, hr.book (htr.deafW i (by omega)) _ _ hbk hd⟩) hwg' hmode ?_
  rcases hlt with ⟨h1, h2⟩ | ⟨h1, h2⟩
  · exact .inl ⟨by simp only; omega, h2⟩
  · exact .inr ⟨h1, rfl, h2⟩
end
end Go.Proofs.Ytmoajpkgdimdaaa
