/- Three workers and their starter: who offers what; a communication of a worker's. -/
import Derived.Test.YtmoajpkgdimdaaaCrwD
set_option linter.unusedSectionVars false
set_option linter.unusedVariables false
namespace Go.Proofs.Ytmoajpkgdimdaaa
open Go.Conc Go.ConcN
open Go.ConcR (KK wgBlock WgAt stA smA rd wr Payload DC0 Bk g_of_ofEvents bk_of_mute ofEvent_loc_mark)
variable [Payload]

theorem setChan_at {w : World} {c : Nat} {o : Obj} (h : w.heap[c]? = some o) (cl : Bool) (s r : Nat) (tm : Bool) : (w.setChan c 0 #[] cl s r tm).heap[c]? = some (.chan 0 #[] cl s r tm) := by
  have hlt := (Array.getElem?_eq_some_iff.1 h).1
  simp [World.setChan, hlt]
theorem setChan_ne (w : World) {c b : Nat} (hb : b ≠ c) (cl : Bool) (s r : Nat) (tm : Bool) : (w.setChan c 0 #[] cl s r tm).heap[b]? = w.heap[b]? := by
  simp [World.setChan, Array.getElem?_setIfInBounds_ne (Ne.symm hb)]
theorem setChan_size (w : World) (c : Nat) (cl : Bool) (s r : Nat) (tm : Bool) : (w.setChan c 0 #[] cl s r tm).heap.size = w.heap.size := by simp [World.setChan]

section
variable {K : Cst} {k c : Nat} {z : Value} {ph : Ph} {s m d : Nat} {g : Goroutine} {w : World}
theorem WS.off0 (h : WS K k c z ph s m d g w) (hp : ph.pk = false) (r : Nat) (b : Bool) : offersAt g r b = [] :=
  offersAt_of_not_blocked (by rcases h.status with ⟨_, h | h⟩ | ⟨h, _⟩ <;> first | (rw [h]; simp) | (rw [hp] at h; cases h)) r b
theorem WS.offS (h : WS K k c z ph s m d g w) {r : Nat} (hn : ∀ l, ph = .snd l true → c ≠ r) : offersAt g r true = [] := by
  by_cases hp : ph.pk = true
  · cases h with
    | sndP h => rw [offersAt_parked_send, if_neg (hn _ rfl)]
    | narP _ h => exact offersAt_parked_recv' ..
    | narP0 _ h => exact offersAt_parked_recv' ..
    | brdP _ h => exact offersAt_parked_recv' ..
    | _ => simp [Ph.pk] at hp
  · exact h.off0 (by simpa using hp) r true
theorem WS.offR (h : WS K k c z ph s m d g w) {r : Nat} (hn : ∀ l, ph = .nar l true → K.cN ≠ r) (hb : ∀ b l, ph = .brd b l true → K.cB ≠ r) : offersAt g r false = [] := by
  by_cases hp : ph.pk = true
  · cases h with
    | sndP h => exact offersAt_parked_send' ..
    | narP _ h => rw [offersAt_parked_recv, if_neg (hn _ rfl)]
    | narP0 _ h => rw [offersAt_parked_recv, if_neg (hn _ rfl)]
    | brdP _ h => rw [offersAt_parked_recv, if_neg (hb _ _ rfl)]
    | _ => simp [Ph.pk] at hp
  · exact h.off0 (by simpa using hp) r false
theorem WS.sndP_inv {l : List Value} (h : WS K k c z (.snd l true) s m d g w) : ∃ v l' g₂ m', l = v :: l' ∧ g = Go.Conc.parked g₂ #[scase c v z] .send ∧ Goes K.P false (Rly K k) (Gua K k) (AtS K k c z l') m' (Go.Conc.served g₂ undef) w := by
  cases h with
  | sndP h => exact ⟨_, _, _, _, rfl, rfl, h⟩
theorem WS.narP_inv {a b : Value} {l : List (Value × Value)} (h : WS K k c z (.nar ((a, b) :: l) true) s m d g w) :
    k = 3 ∧ ∃ g₂ m', g = Go.Conc.parked g₂ #[rcase K.cN K.zN] (.recv true) ∧ Goes K.P false (Rly K 3) (Gua K 3) (AtRb K (AtRn K l) b) m' (Go.Conc.served g₂ (recvd true a true)) w := by
  cases h with
  | narP e h => exact ⟨e, _, _, rfl, h⟩
theorem WS.brdP_inv {b : Value} {l : List (Value × Value)} (h : WS K k c z (.brd b l true) s m d g w) :
    k = 3 ∧ ∃ g₂ m', g = Go.Conc.parked g₂ #[rcase K.cB K.zB] (.recv false) ∧ Goes K.P false (Rly K 3) (Gua K 3) (AtRn K l) m' (Go.Conc.served g₂ (recvd false b true)) w := by
  cases h with
  | brdP e h => exact ⟨e, _, _, rfl, h⟩
end

section
variable {K : Cst} {End Anch : Goroutine → World → Prop} {ns bs : List Value} {rs : List (Value × Value)} {W0 : World}
  {gs : Array Goroutine} {w w' : World} {sl : Option (Nat × Nat)} {j p i : Nat} {D D' : Nat → WD} {ph ph' : Nat → Ph} {tag : CTag} {f0 d0 : Nat} {a g g' g₂ : Goroutine} {t : Trace} {st sm : Int} {es : Array Event}

theorem MS.off0 (hA : ∀ g w, Anch g w → g.status = .running) (h : MS K End Anch ns bs rs tag j f0 d0 a w) (r : Nat) (b : Bool) : offersAt a r b = [] := by
  rcases h.status hA with ⟨hs, _⟩ | ⟨hs, rfl⟩
  · exact offersAt_of_not_blocked (by rw [hs]; simp) r b
  · cases h with
    | blk h =>
      have := (h w (Rly.refl w)).2.1
      simp only [offersAt, this]

/-- Nobody offers that. -/
theorem part_none (hA : ∀ g w, Anch g w → g.status = .running) (ha : gs[0]? = some a) (hm : MS K End Anch ns bs rs tag j f0 d0 a w) (hs : Sys K ns bs rs W0 j gs w D ph) {r : Nat} {b : Bool}
    (ho : ∀ i', i' < j → i' ≠ i → ∀ gi, WS K (i' + 1) (chOf K i') (zOf K i') (ph i') (D i').stage (D i').fuel (D i').deaf gi w → offersAt gi r b = []) : partners (gs.setIfInBounds (i + 1) Go.Conc.ph) r b = [] := by
  refine partners_nil fun q x hx => ?_
  rcases getElem?_stand gs (i + 1) q x hx with ⟨_, rfl⟩ | ⟨hq, hx⟩
  · rfl
  · cases q with
    | zero => rw [ha] at hx; cases hx; exact hm.off0 hA r b
    | succ q =>
      have hlt : q < j := by have := (Array.getElem?_eq_some_iff.1 hx).1; rw [hs.size] at this; omega
      obtain ⟨gi, hgi, hwi⟩ := hs.wk q hlt
      rw [hx] at hgi; cases hgi
      exact ho q hlt (by omega) _ hwi
/-- One alone offers it. -/
theorem part_one (hA : ∀ g w, Anch g w → g.status = .running) (ha : gs[0]? = some a) (hm : MS K End Anch ns bs rs tag j f0 d0 a w) (hs : Sys K ns bs rs W0 j gs w D ph) {r : Nat} {b : Bool} {i2 : Nat} (h2 : i2 ≠ i) (hg : gs[i2 + 1]? = some g) (hof : offersAt g r b = [0])
    (ho : ∀ i', i' < j → i' ≠ i → i' ≠ i2 → ∀ gi, WS K (i' + 1) (chOf K i') (zOf K i') (ph i') (D i').stage (D i').fuel (D i').deaf gi w → offersAt gi r b = []) : partners (gs.setIfInBounds (i + 1) Go.Conc.ph) r b = [(i2 + 1, 0)] := by
  rw [partners_one (j := i2 + 1) (g := g) (stand_get (by omega) hg) (fun q x hq hx => ?_), hof]
  · rfl
  · rcases getElem?_stand gs (i + 1) q x hx with ⟨_, rfl⟩ | ⟨hq', hx⟩
    · rfl
    · cases q with
      | zero => rw [ha] at hx; cases hx; exact hm.off0 hA r b
      | succ q =>
        have hlt : q < j := by have := (Array.getElem?_eq_some_iff.1 hx).1; rw [hs.size] at this; omega
        obtain ⟨gi, hgi, hwi⟩ := hs.wk q hlt
        rw [hx] at hgi; cases hgi
        exact ho q hlt (by omega) (by omega) _ hwi

theorem rks_upd {Q : Ph} (hi : i < 3) : rks (upd ph i Q) + (ph i).rk = rks ph + Q.rk := by
  match i, hi with
  | 0, _ => simp [rks, upd]; omega
  | 1, _ => simp [rks, upd]; omega
  | 2, _ => simp [rks, upd]; omega
theorem lt_rk (hD : ∀ i, i < 3 → (D' i).stage = (D i).stage) (h : rks ph' < rks ph) : Lt2 (Mu ph' D' tag f0) (Mu ph D tag f0) := by
  have e1 : Vc 3 D' = Vc 3 D := sumTo_congr fun a ha => by simp only [cnt, hD a ha]
  have e2 : Ssum 3 D' = Ssum 3 D := sumTo_congr fun a ha => hD a ha
  unfold Mu
  rw [e1, e2]
  exact Prod.Lex.left _ _ (by omega)
def Wk (K : Cst) (j : Nat) (gs : Array Goroutine) (w : World) (D : Nat → WD) (ph : Nat → Ph) : Prop := ∀ i, i < j → ∃ g, gs[i + 1]? = some g ∧ WS K (i + 1) (chOf K i) (zOf K i) (ph i) (D i).stage (D i).fuel (D i).deaf g w
theorem Wk.set (h : Wk K j gs w D ph) (hz : gs.size = j + 1) (hi : i < j) {Q : Ph} {m : Nat} (hw : WS K (i + 1) (chOf K i) (zOf K i) Q 7 m 0 g' w) : Wk K j (gs.setIfInBounds (i + 1) g') w (upd D i ⟨7, m, 0⟩) (upd ph i Q) := by
  intro i' hi'
  by_cases e : i' = i
  · subst e
    exact ⟨g', by rw [Array.getElem?_setIfInBounds_self_of_lt (by omega)], by rw [upd_same, upd_same]; exact hw⟩
  · obtain ⟨gi, hgi, hwi⟩ := h i' hi'
    exact ⟨gi, by rw [Array.getElem?_setIfInBounds_ne (by omega)]; exact hgi, by rw [upd_ne D _ e, upd_ne ph _ e]; exact hwi⟩
theorem Wk.rely (G : Geo K) (h : Wk K j gs w D ph) (hr : ∀ k, Rly K k w w') : Wk K j gs w' D ph := fun i hi => let ⟨g, a, b⟩ := h i hi; ⟨g, a, b.rely G (hr _)⟩
theorem EvK.mono {k : Nat} {e : Event} (h : EvK K k w e) (ht : Typ K w w') : EvK K k w' e := ⟨h.1, h.2.1, h.2.2.1, fun x hx => (h.2.2.2 x hx).mono ht⟩
theorem NoWays.recv (z : Value) {c s r : Nat} {tm : Bool} (hc : w.heap[c]? = some (.chan 0 #[] false s r tm)) (hp : partners gs c true = []) : NoWays w gs (rcase c z) := ⟨made_recv z hc, by simp [ways, rcase, hc, hp]⟩
theorem NoWays.send (v z : Value) {c s r : Nat} {tm : Bool} (hc : w.heap[c]? = some (.chan 0 #[] false s r tm)) (hp : partners gs c false = []) : NoWays w gs (scase c v z) := ⟨made_send v z hc, by simp [ways, scase, hc, hp]⟩

/-- A COMMUNICATION THAT TURNS THE ACTING WORKER ALONE (it waits; it finds the channel closed). -/
theorem commOne (G : Geo K) (hj : 1 ≤ j) (hj3 : j ≤ 3) (ha : gs[0]? = some a) (hm : MS K End Anch ns bs rs tag j f0 d0 a w) (hs : Sys K ns bs rs W0 j gs w D ph) (hwg : WgAt K.ty K.Wg w st sm) (hmode : Go.ConcN.Mode 3 D tag st sm) (htr : Tr K p j w t D d0)
    (hi : i < j) {fn : FuncId} {pos : String} {u : Trace} {Q : Ph} {m : Nat} (hrun : runT K.P (crowd gs w sl) (i + 1) = (.next (crowd (gs.setIfInBounds (i + 1) g') w sl), MemOp.ofEvents (i + 1) fn pos es ++ u)) (hev : ∀ e ∈ es, EvK K (i + 1) w e)
    (hu : ∀ op ∈ u, op.act.touch? = none ∧ op.g ≤ j ∧ ∀ m, op.act ≠ .mark m) (hQ : WS K (i + 1) (chOf K i) (zOf K i) Q 7 m 0 g' w) (h7 : (D i).stage = 7) (h0 : (D i).deaf = 0)
    (hn : okN (upd ph i Q 0) (upd ph i Q 2)) (hb : okB (upd ph i Q 1) (upd ph i Q 2)) (hf : i ≠ 2 → Q.fin = (ph i).fin) (hl : Q ≠ .lib) (hrk : Q.rk < (ph i).rk) :
    ∃ m₁ ops μ', runT K.P (crowd gs w sl) (i + 1) = (.next m₁, ops) ∧ Lt2 μ' (Mu ph D tag f0) ∧ CInv K End Anch ns bs rs W0 μ' m₁ (t ++ ops) := by
  have hDs : ∀ i', (upd D i ⟨7, m, 0⟩ i').stage = (D i').stage ∧ (upd D i ⟨7, m, 0⟩ i').deaf = (D i').deaf := fun i' => by
    by_cases e : i' = i
    · subst e; rw [upd_same]; exact ⟨h7.symm, h0.symm⟩
    · rw [upd_ne D _ e]; exact ⟨rfl, rfl⟩
  have hrk' := rks_upd (ph := ph) (Q := Q) (show i < 3 by omega)
  have fin : ∀ i', i' ≠ 2 → (upd ph i Q i').fin = (ph i').fin := fun i' h2 => by
    by_cases e : i' = i
    · subst e; rw [upd_same]; exact hf h2
    · rw [upd_ne ph _ e]
  refine ⟨_, _, Mu (upd ph i Q) (upd D i ⟨7, m, 0⟩) tag f0, hrun, lt_rk (fun i' _ => (hDs i').1) (by omega), _, w, sl, j, p, upd D i ⟨7, m, 0⟩, upd ph i Q, tag, f0, d0, a, st, sm, rfl, hj, by rw [Array.getElem?_setIfInBounds_ne (by omega)]; exact ha, hm, ?_, hwg, ?_, ?_, rfl⟩
  · refine ⟨by simp [hs.size], Wk.set hs.wk hs.size hi hQ, fun i' h1 h2 => by rw [upd_ne D _ (by omega), upd_ne ph _ (by omega)]; exact hs.idle i' h1 h2, hn, hb, by rw [fin 0 (by omega)]; exact hs.chn, by rw [fin 1 (by omega)]; exact hs.chb, ⟨fun e => ?_, hs.lost.2⟩, hs.kept⟩
    by_cases e2 : 2 = i
    · subst e2; rw [upd_same] at e; exact absurd e hl
    · rw [upd_ne ph _ e2] at e; exact hs.lost.1 e
  · exact hmode.congr fun i' _ => (hDs i').1
  · rw [← Array.append_assoc]
    exact (htr.own G hi hj3 h7 hev (.refl w) (fun i' => ⟨rfl, rfl⟩)).comm hu (.refl w) hDs
/-- A COMMUNICATION OF TWO WORKERS. -/
theorem commTwo (G : Geo K) (hj : 1 ≤ j) (hj3 : j ≤ 3) (ha : gs[0]? = some a) (hm : MS K End Anch ns bs rs tag j f0 d0 a w) (hs : Sys K ns bs rs W0 j gs w D ph) (hwg : WgAt K.ty K.Wg w st sm) (hmode : Go.ConcN.Mode 3 D tag st sm) (htr : Tr K p j w t D d0)
    (hi : i < j) {i2 : Nat} (hi2 : i2 < j) (hne : i2 ≠ i) {x y : Goroutine} {fn : FuncId} {pos : String} {u : Trace} {Q Q2 : Ph} {m m2 c s r : Nat} {tm : Bool} (hcc : c = K.cN ∨ c = K.cB) (hch : ∃ o, w.heap[c]? = some o)
    (hrun : runT K.P (crowd gs w sl) (i + 1) = (.next (crowd ((gs.setIfInBounds (i2 + 1) y).setIfInBounds (i + 1) x) (w.setChan c 0 #[] false s r tm) sl), MemOp.ofEvents (i + 1) fn pos es ++ u)) (hev : ∀ e ∈ es, EvK K (i + 1) w e)
    (hu : ∀ op ∈ u, op.act.touch? = none ∧ op.g ≤ j ∧ ∀ m, op.act ≠ .mark m) (hQ : WS K (i + 1) (chOf K i) (zOf K i) Q 7 m 0 x w) (hQ2 : WS K (i2 + 1) (chOf K i2) (zOf K i2) Q2 7 m2 0 y w)
    (h7 : (D i).stage = 7) (h0 : (D i).deaf = 0) (h72 : (D i2).stage = 7) (h02 : (D i2).deaf = 0)
    (hn : okN (upd (upd ph i2 Q2) i Q 0) (upd (upd ph i2 Q2) i Q 2)) (hb : okB (upd (upd ph i2 Q2) i Q 1) (upd (upd ph i2 Q2) i Q 2)) (hf0 : (upd (upd ph i2 Q2) i Q 0).fin = false ∧ (ph 0).fin = false ∨ (upd (upd ph i2 Q2) i Q 0).fin = (ph 0).fin ∧ c ≠ K.cN)
    (hf1 : (upd (upd ph i2 Q2) i Q 1).fin = false ∧ (ph 1).fin = false ∨ (upd (upd ph i2 Q2) i Q 1).fin = (ph 1).fin ∧ c ≠ K.cB) (hl : Q ≠ .lib) (hl2 : Q2 ≠ .lib) (hrk : Q.rk + Q2.rk < (ph i).rk + (ph i2).rk) :
    ∃ m₁ ops μ', runT K.P (crowd gs w sl) (i + 1) = (.next m₁, ops) ∧ Lt2 μ' (Mu ph D tag f0) ∧ CInv K End Anch ns bs rs W0 μ' m₁ (t ++ ops) := by
  obtain ⟨o, hch⟩ := hch
  have hlt : c < K.H0 := by rcases hcc with rfl | rfl <;> first | exact G.n | exact G.b
  have hoth : ∀ b, b ≠ c → (w.setChan c 0 #[] false s r tm).heap[b]? = w.heap[b]? := fun b hb => setChan_ne w hb ..
  have hWc : K.Wg ≠ c := by rcases hcc with rfl | rfl <;> first | exact G.wn | exact G.wb
  have hLc : K.Lb ≠ c := by rcases hcc with rfl | rfl <;> first | exact G.ln | exact G.lB
  have hwg' : WgAt K.ty K.Wg (w.setChan c 0 #[] false s r tm) st sm := hwg.of_block (hoth _ hWc)
  have hr : ∀ k, Rly K k w (w.setChan c 0 #[] false s r tm) := fun k => Rly.of_one (c := c) G (.inr hcc) (setChan_size ..) hoth fun _ => ⟨_, _, hwg'⟩
  have ht : Typ K w (w.setChan c 0 #[] false s r tm) := .of_one hlt hoth
  have hDs : ∀ i', (upd (upd D i2 ⟨7, m2, 0⟩) i ⟨7, m, 0⟩ i').stage = (D i').stage ∧ (upd (upd D i2 ⟨7, m2, 0⟩) i ⟨7, m, 0⟩ i').deaf = (D i').deaf := fun i' => by
    by_cases e : i' = i
    · subst e; rw [upd_same]; exact ⟨h7.symm, h0.symm⟩
    · rw [upd_ne _ _ e]
      by_cases e2 : i' = i2
      · subst e2; rw [upd_same]; exact ⟨h72.symm, h02.symm⟩
      · rw [upd_ne D _ e2]; exact ⟨rfl, rfl⟩
  have hrk1 := rks_upd (ph := ph) (Q := Q2) (show i2 < 3 by omega)
  have hrk2 := rks_upd (ph := upd ph i2 Q2) (Q := Q) (show i < 3 by omega)
  rw [upd_ne ph _ (Ne.symm hne)] at hrk2
  have hchc : ∀ {c' : Nat} {b : Bool}, chA c' b w → (b = false ∨ c ≠ c') → ∀ {b'}, b' = b → chA c' b' (w.setChan c 0 #[] false s r tm) := by
    rintro c' b ⟨s', r', tm', e⟩ hb b' rfl
    by_cases ec : c' = c
    · subst ec
      obtain rfl := hb.resolve_right (by simp)
      exact ⟨_, _, _, setChan_at hch ..⟩
    · exact ⟨s', r', tm', (hoth _ ec).trans e⟩
  refine ⟨_, _, Mu (upd (upd ph i2 Q2) i Q) (upd (upd D i2 ⟨7, m2, 0⟩) i ⟨7, m, 0⟩) tag f0, hrun, lt_rk (fun i' _ => (hDs i').1) (by omega), _, _, sl, j, p, upd (upd D i2 ⟨7, m2, 0⟩) i ⟨7, m, 0⟩, upd (upd ph i2 Q2) i Q, tag, f0, d0, a, st, sm, rfl, hj,
    by rw [Array.getElem?_setIfInBounds_ne (by omega), Array.getElem?_setIfInBounds_ne (by omega)]; exact ha, hm.rely (hr 0), ?_, hwg', ?_, ?_, rfl⟩
  · refine ⟨by simp [hs.size], (Wk.set (Wk.set hs.wk hs.size hi2 hQ2) (by simp [hs.size]) hi hQ).rely G hr, fun i' h1 h2 => by rw [upd_ne _ _ (show i' ≠ i by omega), upd_ne D _ (show i' ≠ i2 by omega), upd_ne _ _ (show i' ≠ i by omega), upd_ne ph _ (show i' ≠ i2 by omega)]; exact hs.idle i' h1 h2, hn, hb, ?_, ?_, ⟨fun e => ?_, fun h3 => (hoth _ hLc).trans (hs.lost.2 h3)⟩, hs.kept.of_old ⟨rfl, rfl, rfl⟩ (by rw [setChan_size]; exact Nat.le_refl _) fun b _ h2 h3 h4 _ => hoth b (by rcases hcc with rfl | rfl <;> assumption)⟩
    · rcases hf0 with ⟨e1, e2⟩ | ⟨e1, e2⟩
      · exact hchc hs.chn (.inl e2) (e1.trans e2.symm)
      · exact hchc hs.chn (.inr e2) e1
    · rcases hf1 with ⟨e1, e2⟩ | ⟨e1, e2⟩
      · exact hchc hs.chb (.inl e2) (e1.trans e2.symm)
      · exact hchc hs.chb (.inr e2) e1
    · rw [hoth _ hLc]
      by_cases e2 : 2 = i
      · subst e2; rw [upd_same] at e; exact absurd e hl
      · rw [upd_ne _ _ e2] at e
        by_cases e3 : 2 = i2
        · subst e3; rw [upd_same] at e; exact absurd e hl2
        · rw [upd_ne ph _ e3] at e; exact hs.lost.1 e
  · exact hmode.congr fun i' _ => (hDs i').1
  · rw [← Array.append_assoc]
    exact (htr.own G hi hj3 h7 hev (.refl w) (fun i' => ⟨rfl, rfl⟩)).comm hu ht hDs
end
end Go.Proofs.Ytmoajpkgdimdaaa
