/- Three workers and their starter: a worker at a communication, and at its channel's close. -/
import Derived.Test.YtmoajpkgdimdaaaCrwE
set_option linter.unusedSectionVars false
set_option linter.unusedVariables false
namespace Go.Proofs.Ytmoajpkgdimdaaa
open Go.Conc Go.ConcN
open Go.ConcR (KK wgBlock WgAt stA smA rd wr Payload DC0 Bk g_of_ofEvents bk_of_mute ofEvent_loc_mark)
variable [Payload]

section
variable {K : Cst} {End Anch : Goroutine → World → Prop} {ns bs : List Value} {rs : List (Value × Value)} {W0 : World}
  {gs : Array Goroutine} {w w' : World} {sl : Option (Nat × Nat)} {j p i : Nat} {D D' : Nat → WD} {ph ph' : Nat → Ph} {tag : CTag} {f0 d0 : Nat} {a g g' g₂ : Goroutine} {t : Trace} {st sm : Int} {es : Array Event}

/-- Whose phase is what. -/
theorem Sys.ph0 (h : Sys K ns bs rs W0 j gs w D ph) : ∀ l p, ph 0 ≠ .nar l p := fun l p e => by
  have := h.okn
  rw [e] at this
  cases e2 : ph 2 <;> rw [e2] at this <;> simp [okN, Ph.fin] at this
theorem Sys.ph0b (h : Sys K ns bs rs W0 j gs w D ph) : ∀ b l p, ph 0 ≠ .brd b l p := fun b l p e => by
  have := h.okn
  rw [e] at this
  cases e2 : ph 2 <;> rw [e2] at this <;> simp [okN, Ph.fin] at this
theorem Sys.ph1 (h : Sys K ns bs rs W0 j gs w D ph) : ∀ l p, ph 1 ≠ .nar l p := fun l p e => by
  have := h.okb
  rw [e] at this
  cases e2 : ph 2 <;> rw [e2] at this <;> simp [okB, Ph.fin] at this
theorem Sys.ph1b (h : Sys K ns bs rs W0 j gs w D ph) : ∀ b l p, ph 1 ≠ .brd b l p := fun b l p e => by
  have := h.okb
  rw [e] at this
  cases e2 : ph 2 <;> rw [e2] at this <;> simp [okB, Ph.fin] at this
theorem Sys.ph2 (h : Sys K ns bs rs W0 j gs w D ph) : ∀ l p, ph 2 ≠ .snd l p := fun l p e => by
  have := h.okn
  rw [e] at this
  exact this

abbrev WGoal (K : Cst) (End Anch : Goroutine → World → Prop) (ns bs : List Value) (rs : List (Value × Value)) (W0 : World) (gs : Array Goroutine) (w : World) (sl : Option (Nat × Nat)) (i : Nat) (t : Trace) (D : Nat → WD) (ph : Nat → Ph) (tag : CTag) (f0 : Nat) : Prop :=
  ∃ m₁ ops μ', runT K.P (crowd gs w sl) (i + 1) = (.next m₁, ops) ∧ Lt2 μ' (Mu ph D tag f0) ∧ CInv K End Anch ns bs rs W0 μ' m₁ (t ++ ops)

/-- The narrow sender sends. -/
theorem wSendN (hA : ∀ g w, Anch g w → g.status = .running) (G : Geo K) (hj : 1 ≤ j) (ha : gs[0]? = some a) (hm : MS K End Anch ns bs rs tag j f0 d0 a w) (hs : Sys K ns bs rs W0 j gs w D ph) (hwg : WgAt K.ty K.Wg w st sm) (hmode : Go.ConcN.Mode 3 D tag st sm) (htr : Tr K p j w t D d0)
    (hi0 : i = 0) (hi : i < j) (hg : gs[i + 1]? = some g) {v : Value} {l : List Value} (hp : ph i = .snd (v :: l) false) (h7 : (D i).stage = 7) (h0 : (D i).deaf = 0) (hb : Base g g₂)
    (hst : stepG K.P false g w = .comm g₂ #[scase (chOf K i) v (zOf K i)] true .send w es) (hev : ∀ e ∈ es, EvK K (i + 1) w e) {m : Nat} (hgo : Goes K.P false (Rly K (i + 1)) (Gua K (i + 1)) (AtS K (i + 1) (chOf K i) (zOf K i) l) m (Go.Conc.served g₂ undef) w) : WGoal K End Anch ns bs rs W0 gs w sl i t D ph tag f0 := by
  have hj3 := hm.size
  obtain ⟨s, r, tm, hch⟩ : chA K.cN false w := by
    have := hs.chn
    subst hi0
    rw [hp] at this
    exact this
  have hc0 : chOf K i = K.cN := by subst hi0; rfl
  rw [hc0] at hst
  by_cases hpar : ∃ x l', ph 2 = .nar (x :: l') true
  · obtain ⟨⟨v', b⟩, l', e2⟩ := hpar
    have hokn := hs.okn
    have h2j : 2 < j := by
      apply Classical.byContradiction
      intro h
      have := (hs.idle 2 (by omega) (by omega)).2
      rw [e2] at this; simp [ini] at this
    simp only [okN, e2, List.map_cons] at hokn
    obtain ⟨q, e0, -⟩ := hokn.resolve_right (by rintro ⟨h, -⟩; cases h)
    subst hi0
    rw [hp] at e0
    injection e0 with e0 e0'
    injection e0 with e0 e0''
    subst e0 e0' e0''
    obtain ⟨g2, hg2, hw2⟩ := hs.wk 2 h2j
    obtain ⟨h72, h02⟩ := hw2.stage7 (by rw [e2]; simp)
    rw [e2] at hw2
    obtain ⟨-, gj, m', rfl, hgo2⟩ := hw2.narP_inv
    have hpp := part_one (i := 0) (r := K.cN) (b := false) hA ha hm hs (i2 := 2) (by omega) hg2 (by rw [offersAt_parked_recv, if_pos rfl]) (fun i' h1 h2 h3 gi hw => by
      obtain rfl : i' = 1 := by omega
      exact hw.offR (fun l e => absurd e (hs.ph1 l true)) (fun b l e => absurd e (hs.ph1b b l true)))
    have hrun := crowd_send_meets (P := K.P) (sl := sl) (i := 0 + 1) (j := 2 + 1) hg (by simpa using hst) hch (by omega) hg2 hpp
    rw [finishComm_recv, finishComm_send] at hrun
    refine commTwo (Q := .snd (l'.map Prod.fst) false) (Q2 := .brd b l' false) G hj hj3 ha hm hs hwg hmode htr hi h2j (by omega) (.inl rfl) ⟨_, hch⟩ hrun hev ?_ (.snd hgo) (.brd rfl hgo2) h7 h0 h72 h02 ?_ ?_ (.inl ⟨rfl, by rw [hp]; rfl⟩) (.inr ⟨rfl, G.nb⟩) (by simp) (by simp) ?_
    · intro op hop
      simp only [List.mem_toArray, List.mem_cons, List.not_mem_nil, or_false] at hop
      rcases hop with rfl | rfl | rfl | rfl <;> exact ⟨rfl, by dsimp only; omega, by intro m; simp⟩
    · exact .inl ⟨false, rfl⟩
    · have := hs.okb
      simp only [okB, e2, List.map_cons] at this
      rcases this with ⟨q, e1⟩ | ⟨h, -⟩
      · exact ⟨q, e1, by simp⟩
      · cases h
    · rw [hp, e2]; simp [Ph.rk]; omega
  · have hnr : ∀ l, ph 2 = .nar l true → l = [] := fun l e => by
      cases l with
      | nil => rfl
      | cons x l' => exact absurd ⟨x, l', e⟩ hpar
    have hno : ∀ l, ph 2 ≠ .nar l true := fun l' e => by
      obtain rfl := hnr l' e
      have := hs.okn
      simp only [okN, e] at this
      subst hi0
      rw [hp] at this
      rcases this with ⟨q, h, -⟩ | ⟨-, -, h⟩
      · simp at h
      · cases h
    have hpp := part_none (i := i) (r := K.cN) (b := false) hA ha hm hs (fun i' h1 h2 gi hw => by
      refine hw.offR (fun l e => ?_) (fun b l e => ?_)
      · exfalso
        match i', h2, e with
        | 1, _, e => exact hs.ph1 l true e
        | 2, _, e => exact hno l e
        | 0, h2, e => omega
        | q + 3, _, _ => omega
      · exact Ne.symm G.nb)
    have hrun := crowd_waits (P := K.P) (sl := sl) (i := i + 1) hg (by simpa using hst) (by
      intro cc hcc
      simp at hcc
      subst hcc
      exact NoWays.send v (zOf K i) hch hpp)
    rw [← Array.append_empty (xs := MemOp.ofEvents (i + 1) g.frame.fn g.frame.place es)] at hrun
    refine commOne (Q := .snd (v :: l) true) G hj hj3 ha hm hs hwg hmode htr hi hrun hev (by simp) (by rw [← hc0]; exact .sndP hgo) h7 h0 ?_ ?_ (fun _ => by rw [hp]; rfl) (by simp) (by rw [hp]; simp [Ph.rk])
    · subst hi0
      have := hs.okn
      rw [upd_same, upd_ne _ _ (by omega)]
      cases e2 : ph 2 with
      | nar l' q =>
        simp only [okN, e2, hp] at this ⊢
        rcases this with ⟨q', h, -⟩ | ⟨_, h, -⟩
        · injection h with h1 h2
          exact .inl ⟨true, by rw [h1], by rintro ⟨_, rfl⟩; exact hno _ e2⟩
        · cases h
      | brd b l' q =>
        simp only [okN, e2, hp] at this ⊢
        rcases this with ⟨q', h⟩ | ⟨_, h⟩
        · injection h with h1 h2
          exact .inl ⟨true, by rw [h1]⟩
        · cases h
      | snd l' q => exact absurd e2 (hs.ph2 _ _)
      | rel => simp [okN, e2, hp, Ph.fin] at this
      | lib => simp [okN, e2, hp, Ph.fin] at this
    · subst hi0
      rw [upd_ne _ _ (by omega), upd_ne _ _ (by omega)]
      exact hs.okb
/-- The broad sender sends. -/
theorem wSendB (hA : ∀ g w, Anch g w → g.status = .running) (G : Geo K) (hj : 1 ≤ j) (ha : gs[0]? = some a) (hm : MS K End Anch ns bs rs tag j f0 d0 a w) (hs : Sys K ns bs rs W0 j gs w D ph) (hwg : WgAt K.ty K.Wg w st sm) (hmode : Go.ConcN.Mode 3 D tag st sm) (htr : Tr K p j w t D d0)
    (hi0 : i = 1) (hi : i < j) (hg : gs[i + 1]? = some g) {v : Value} {l : List Value} (hp : ph i = .snd (v :: l) false) (h7 : (D i).stage = 7) (h0 : (D i).deaf = 0) (hb : Base g g₂)
    (hst : stepG K.P false g w = .comm g₂ #[scase (chOf K i) v (zOf K i)] true .send w es) (hev : ∀ e ∈ es, EvK K (i + 1) w e) {m : Nat} (hgo : Goes K.P false (Rly K (i + 1)) (Gua K (i + 1)) (AtS K (i + 1) (chOf K i) (zOf K i) l) m (Go.Conc.served g₂ undef) w) : WGoal K End Anch ns bs rs W0 gs w sl i t D ph tag f0 := by
  have hj3 := hm.size
  obtain ⟨s, r, tm, hch⟩ : chA K.cB false w := by
    have := hs.chb
    subst hi0
    rw [hp] at this
    exact this
  have hc0 : chOf K i = K.cB := by subst hi0; rfl
  rw [hc0] at hst
  by_cases hpar : ∃ b l', ph 2 = .brd b l' true
  · obtain ⟨b, l', e2⟩ := hpar
    have hokb := hs.okb
    have h2j : 2 < j := by
      apply Classical.byContradiction
      intro h
      have := (hs.idle 2 (by omega) (by omega)).2
      rw [e2] at this; simp [ini] at this
    simp only [okB, e2] at hokb
    obtain ⟨q, e0, -⟩ := hokb
    subst hi0
    rw [hp] at e0
    injection e0 with e0 e0'
    injection e0 with e0 e0''
    subst e0 e0' e0''
    obtain ⟨g2, hg2, hw2⟩ := hs.wk 2 h2j
    obtain ⟨h72, h02⟩ := hw2.stage7 (by rw [e2]; simp)
    rw [e2] at hw2
    obtain ⟨-, gj, m', rfl, hgo2⟩ := hw2.brdP_inv
    have hpp := part_one (i := 1) (r := K.cB) (b := false) hA ha hm hs (i2 := 2) (by omega) hg2 (by rw [offersAt_parked_recv, if_pos rfl]) (fun i' h1 h2 h3 gi hw => by
      obtain rfl : i' = 0 := by omega
      exact hw.offR (fun l e => absurd e (hs.ph0 l true)) (fun b l e => absurd e (hs.ph0b b l true)))
    have hrun := crowd_send_meets (P := K.P) (sl := sl) (i := 1 + 1) (j := 2 + 1) hg (by simpa using hst) hch (by omega) hg2 hpp
    rw [finishComm_recv, finishComm_send] at hrun
    refine commTwo (Q := .snd (l'.map Prod.snd) false) (Q2 := .nar l' false) G hj hj3 ha hm hs hwg hmode htr hi h2j (by omega) (.inr rfl) ⟨_, hch⟩ hrun hev ?_ (.snd hgo) (.nar rfl hgo2) h7 h0 h72 h02 ?_ ?_ (.inr ⟨rfl, Ne.symm G.nb⟩) (.inl ⟨rfl, by rw [hp]; rfl⟩) (by simp) (by simp) ?_
    · intro op hop
      simp only [List.mem_toArray, List.mem_cons, List.not_mem_nil, or_false] at hop
      rcases hop with rfl | rfl | rfl | rfl <;> exact ⟨rfl, by dsimp only; omega, by intro m; simp⟩
    · have := hs.okn
      simp only [okN, e2] at this
      rcases this with ⟨q, e1⟩ | ⟨h1, h2⟩
      · exact .inl ⟨q, e1, by simp⟩
      · exact .inr ⟨h1, h2, rfl⟩
    · exact .inl ⟨false, rfl⟩
    · rw [hp, e2]; simp [Ph.rk]; omega
  · have hno : ∀ b l, ph 2 ≠ .brd b l true := fun b l' e => hpar ⟨b, l', e⟩
    have hpp := part_none (i := i) (r := K.cB) (b := false) hA ha hm hs (fun i' h1 h2 gi hw => by
      refine hw.offR (fun l e => G.nb) (fun b l e => ?_)
      · exfalso
        match i', h2, e with
        | 0, _, e => exact hs.ph0b b l true e
        | 2, _, e => exact hno b l e
        | 1, h2, e => omega
        | q + 3, _, _ => omega)
    have hrun := crowd_waits (P := K.P) (sl := sl) (i := i + 1) hg (by simpa using hst) (by
      intro cc hcc
      simp at hcc
      subst hcc
      exact NoWays.send v (zOf K i) hch hpp)
    rw [← Array.append_empty (xs := MemOp.ofEvents (i + 1) g.frame.fn g.frame.place es)] at hrun
    refine commOne (Q := .snd (v :: l) true) G hj hj3 ha hm hs hwg hmode htr hi hrun hev (by simp) (by rw [← hc0]; exact .sndP hgo) h7 h0 ?_ ?_ (fun _ => by rw [hp]; rfl) (by simp) (by rw [hp]; simp [Ph.rk])
    · subst hi0
      rw [upd_ne _ _ (by omega), upd_ne _ _ (by omega)]
      exact hs.okn
    · subst hi0
      have := hs.okb
      rw [upd_same, upd_ne _ _ (by omega)]
      cases e2 : ph 2 with
      | nar l' q =>
        simp only [okB, e2, hp] at this ⊢
        rcases this with ⟨q', h⟩ | ⟨_, h⟩
        · injection h with h1 h2
          exact .inl ⟨true, by rw [h1]⟩
        · cases h
      | brd b l' q =>
        simp only [okB, e2, hp] at this ⊢
        obtain ⟨q', h, -⟩ := this
        injection h with h1 h2
        exact ⟨true, by rw [h1], by rintro ⟨_, rfl⟩; exact hno _ _ e2⟩
      | snd l' q => exact absurd e2 (hs.ph2 _ _)
      | rel =>
        simp only [okB, e2, hp] at this
        rcases this with ⟨q', h⟩ | h
        · simp at h
        · cases h
      | lib =>
        simp only [okB, e2, hp] at this
        rcases this with ⟨q', h⟩ | h
        · simp at h
        · cases h
/-- The receiver at the broad channel. -/
theorem wRecvB (hA : ∀ g w, Anch g w → g.status = .running) (G : Geo K) (hj : 1 ≤ j) (ha : gs[0]? = some a) (hm : MS K End Anch ns bs rs tag j f0 d0 a w) (hs : Sys K ns bs rs W0 j gs w D ph) (hwg : WgAt K.ty K.Wg w st sm) (hmode : Go.ConcN.Mode 3 D tag st sm) (htr : Tr K p j w t D d0)
    (hi0 : i = 2) (hi : i < j) (hg : gs[i + 1]? = some g) {b : Value} {l : List (Value × Value)} (hp : ph i = .brd b l false) (h7 : (D i).stage = 7) (h0 : (D i).deaf = 0) (hb : Base g g₂)
    (hst : stepG K.P false g w = .comm g₂ #[rcase K.cB K.zB] true (.recv false) w es) (hev : ∀ e ∈ es, EvK K 3 w e) {m : Nat} (hgo : Goes K.P false (Rly K 3) (Gua K 3) (AtRn K l) m (Go.Conc.served g₂ (recvd false b true)) w) : WGoal K End Anch ns bs rs W0 gs w sl i t D ph tag f0 := by
  have hj3 := hm.size
  subst hi0
  have hokb := hs.okb
  simp only [okB, hp] at hokb
  obtain ⟨q, e1, hq⟩ := hokb
  obtain ⟨s, r, tm, hch⟩ : chA K.cB false w := by
    have := hs.chb
    rw [e1] at this
    exact this
  have hev' : ∀ e ∈ es, EvK K (2 + 1) w e := hev
  cases q with
  | true =>
    have h1j : 1 < j := by omega
    obtain ⟨g1, hg1, hw1⟩ := hs.wk 1 h1j
    obtain ⟨h71, h01⟩ := hw1.stage7 (by rw [e1]; simp)
    rw [e1] at hw1
    obtain ⟨v, l', gj, m', e0, rfl, hgo1⟩ := hw1.sndP_inv
    injection e0 with e0 e0'
    subst e0 e0'
    have hpp := part_one (i := 2) (r := K.cB) (b := true) hA ha hm hs (i2 := 1) (by omega) hg1 (by rw [offersAt_parked_send]; exact if_pos rfl) (fun i' h1 h2 h3 gi hw => by
      obtain rfl : i' = 0 := by omega
      exact hw.offS (fun l e => G.nb))
    have hrun := crowd_recv_meets (P := K.P) (sl := sl) (i := 2 + 1) (j := 1 + 1) hg (by simpa using hst) hch (by omega) hg1 hpp
    rw [finishComm_recv, finishComm_send] at hrun
    refine commTwo (Q := .nar l false) (Q2 := .snd (l.map Prod.snd) false) G hj hj3 ha hm hs hwg hmode htr hi h1j (by omega) (.inr rfl) ⟨_, hch⟩ hrun hev' ?_ (.nar rfl hgo) (.snd hgo1) h7 h0 h71 h01 ?_ ?_ (.inr ⟨rfl, Ne.symm G.nb⟩) (.inl ⟨rfl, by rw [e1]; rfl⟩) (by simp) (by simp) ?_
    · intro op hop
      simp only [List.mem_toArray, List.mem_cons, List.not_mem_nil, or_false] at hop
      rcases hop with rfl | rfl | rfl | rfl <;> exact ⟨rfl, by dsimp only; omega, by intro m; simp⟩
    · have := hs.okn
      simp only [okN, hp] at this
      rcases this with ⟨q, e1⟩ | ⟨h1, h2⟩
      · exact .inl ⟨q, e1, by simp⟩
      · exact .inr ⟨h1, h2, rfl⟩
    · exact .inl ⟨false, rfl⟩
    · rw [hp, e1]; simp [Ph.rk]; omega
  | false =>
    have hpp := part_none (i := 2) (r := K.cB) (b := true) hA ha hm hs (fun i' h1 h2 gi hw => by
      refine hw.offS (fun l e => ?_)
      match i', h2, e with
      | 0, _, e => exact G.nb
      | 1, _, e => rw [e1] at e; simp at e
      | 2, h2, _ => omega
      | q + 3, _, _ => omega)
    have hrun := crowd_waits (P := K.P) (sl := sl) (i := 2 + 1) hg (by simpa using hst) (by
      intro cc hcc
      simp at hcc
      subst hcc
      exact NoWays.recv K.zB hch hpp)
    rw [← Array.append_empty (xs := MemOp.ofEvents (2 + 1) g.frame.fn g.frame.place es)] at hrun
    refine commOne (Q := .brd b l true) G hj hj3 ha hm hs hwg hmode htr hi hrun hev' (by simp) (.brdP rfl hgo) h7 h0 ?_ ?_ (fun h => absurd rfl h) (by simp) (by rw [hp]; simp [Ph.rk])
    · have := hs.okn
      simp only [okN, hp] at this
      exact this
    · exact ⟨false, e1, by simp⟩
/-- The receiver at the narrow channel, a pair being due. -/
theorem wRecvN (hA : ∀ g w, Anch g w → g.status = .running) (G : Geo K) (hj : 1 ≤ j) (ha : gs[0]? = some a) (hm : MS K End Anch ns bs rs tag j f0 d0 a w) (hs : Sys K ns bs rs W0 j gs w D ph) (hwg : WgAt K.ty K.Wg w st sm) (hmode : Go.ConcN.Mode 3 D tag st sm) (htr : Tr K p j w t D d0)
    (hi0 : i = 2) (hi : i < j) (hg : gs[i + 1]? = some g) {x b : Value} {l : List (Value × Value)} (hp : ph i = .nar ((x, b) :: l) false) (h7 : (D i).stage = 7) (h0 : (D i).deaf = 0) (hb : Base g g₂)
    (hst : stepG K.P false g w = .comm g₂ #[rcase K.cN K.zN] true (.recv true) w es) (hev : ∀ e ∈ es, EvK K 3 w e) {m : Nat} (hgo : Goes K.P false (Rly K 3) (Gua K 3) (AtRb K (AtRn K l) b) m (Go.Conc.served g₂ (recvd true x true)) w) : WGoal K End Anch ns bs rs W0 gs w sl i t D ph tag f0 := by
  have hj3 := hm.size
  subst hi0
  have hokn := hs.okn
  simp only [okN, hp, List.map_cons] at hokn
  obtain ⟨q, e1, hq⟩ := hokn.resolve_right (by rintro ⟨h, -⟩; cases h)
  obtain ⟨s, r, tm, hch⟩ : chA K.cN false w := by
    have := hs.chn
    rw [e1] at this
    exact this
  have hev' : ∀ e ∈ es, EvK K (2 + 1) w e := hev
  cases q with
  | true =>
    have h1j : 0 < j := by omega
    obtain ⟨g1, hg1, hw1⟩ := hs.wk 0 h1j
    obtain ⟨h71, h01⟩ := hw1.stage7 (by rw [e1]; simp)
    rw [e1] at hw1
    obtain ⟨v, l', gj, m', e0, rfl, hgo1⟩ := hw1.sndP_inv
    injection e0 with e0 e0'
    subst e0 e0'
    have hpp := part_one (i := 2) (r := K.cN) (b := true) hA ha hm hs (i2 := 0) (by omega) hg1 (by rw [offersAt_parked_send]; exact if_pos rfl) (fun i' h1 h2 h3 gi hw => by
      obtain rfl : i' = 1 := by omega
      exact hw.offS (fun l e => Ne.symm G.nb))
    have hrun := crowd_recv_meets (P := K.P) (sl := sl) (i := 2 + 1) (j := 0 + 1) hg (by simpa using hst) hch (by omega) hg1 hpp
    rw [finishComm_recv, finishComm_send] at hrun
    refine commTwo (Q := .brd b l false) (Q2 := .snd (l.map Prod.fst) false) G hj hj3 ha hm hs hwg hmode htr hi h1j (by omega) (.inl rfl) ⟨_, hch⟩ hrun hev' ?_ (.brd rfl hgo) (.snd hgo1) h7 h0 h71 h01 ?_ ?_ (.inl ⟨rfl, by rw [e1]; rfl⟩) (.inr ⟨rfl, G.nb⟩) (by simp) (by simp) ?_
    · intro op hop
      simp only [List.mem_toArray, List.mem_cons, List.not_mem_nil, or_false] at hop
      rcases hop with rfl | rfl | rfl | rfl <;> exact ⟨rfl, by dsimp only; omega, by intro m; simp⟩
    · exact .inl ⟨false, rfl⟩
    · have := hs.okb
      simp only [okB, hp, List.map_cons] at this
      rcases this with ⟨q, e1⟩ | ⟨h, -⟩
      · exact ⟨q, e1, by simp⟩
      · cases h
    · rw [hp, e1]; simp [Ph.rk]; omega
  | false =>
    have hpp := part_none (i := 2) (r := K.cN) (b := true) hA ha hm hs (fun i' h1 h2 gi hw => by
      refine hw.offS (fun l e => ?_)
      match i', h2, e with
      | 1, _, e => exact Ne.symm G.nb
      | 0, _, e => rw [e1] at e; simp at e
      | 2, h2, _ => omega
      | q + 3, _, _ => omega)
    have hrun := crowd_waits (P := K.P) (sl := sl) (i := 2 + 1) hg (by simpa using hst) (by
      intro cc hcc
      simp at hcc
      subst hcc
      exact NoWays.recv K.zN hch hpp)
    rw [← Array.append_empty (xs := MemOp.ofEvents (2 + 1) g.frame.fn g.frame.place es)] at hrun
    refine commOne (Q := .nar ((x, b) :: l) true) G hj hj3 ha hm hs hwg hmode htr hi hrun hev' (by simp) (.narP rfl hgo) h7 h0 ?_ ?_ (fun h => absurd rfl h) (by simp) (by rw [hp]; simp [Ph.rk])
    · exact .inl ⟨false, e1, by simp⟩
    · have := hs.okb
      simp only [okB, hp] at this
      exact this
/-- The receiver at the narrow channel, no pair being due: it waits, or finds it closed. -/
theorem wRecv0 (hA : ∀ g w, Anch g w → g.status = .running) (G : Geo K) (hj : 1 ≤ j) (ha : gs[0]? = some a) (hm : MS K End Anch ns bs rs tag j f0 d0 a w) (hs : Sys K ns bs rs W0 j gs w D ph) (hwg : WgAt K.ty K.Wg w st sm) (hmode : Go.ConcN.Mode 3 D tag st sm) (htr : Tr K p j w t D d0)
    (hi0 : i = 2) (hi : i < j) (hg : gs[i + 1]? = some g) (hp : ph i = .nar [] false) (h7 : (D i).stage = 7) (h0 : (D i).deaf = 0) (hat : ∀ w₁, Rly K 3 w w₁ → AtRn K [] g w₁) : WGoal K End Anch ns bs rs W0 gs w sl i t D ph tag f0 := by
  have hj3 := hm.size
  subst hi0
  obtain ⟨hst0, g₂, es, hb, hst, hev, m, hgo⟩ := hat w (Rly.refl w)
  have hev' : ∀ e ∈ es, EvK K (2 + 1) w e := hev
  have hokn := hs.okn
  simp only [okN, hp, List.map_nil] at hokn
  have hpp := part_none (i := 2) (r := K.cN) (b := true) hA ha hm hs (fun i' h1 h2 gi hw => by
      refine hw.offS (fun l e => ?_)
      match i', h2, e, hw with
      | 1, _, e, _ => exact Ne.symm G.nb
      | 0, _, e, hw =>
        rcases hokn with ⟨q, e1, hq⟩ | ⟨-, h, -⟩
        · rw [e1] at e hw
          injection e with e' e''
          subst e''
          obtain ⟨_, _, _, _, h, _⟩ := hw.sndP_inv
          cases h
        · rw [e] at h; cases h
      | 2, h2, _, _ => omega
      | q + 3, _, _, _ => omega)
  by_cases hf : (ph 0).fin = true
  · obtain ⟨s, r, tm, hch⟩ : chA K.cN true w := by
      have := hs.chn
      rw [hf] at this
      exact this
    have hrun := crowd_recv_closed (P := K.P) (sl := sl) (i := 2 + 1) hg (by simpa using hst) hch hpp
    rw [finishComm_recv] at hrun
    refine commOne (Q := .rel) G hj hj3 ha hm hs hwg hmode htr hi hrun hev' ?_ (.rel hgo) h7 h0 ?_ ?_ (fun h => absurd rfl h) (by simp) (by rw [hp]; simp [Ph.rk])
    · intro op hop
      simp only [List.mem_toArray, List.mem_cons, List.not_mem_nil, or_false] at hop
      subst hop
      exact ⟨rfl, by dsimp only; omega, by intro m; simp⟩
    · exact hf
    · have := hs.okb
      simp only [okB, hp, List.map_nil] at this
      rcases this with h | ⟨-, h⟩
      · exact .inl h
      · exact .inr h
  · obtain ⟨q, e1, hq⟩ := hokn.resolve_right (by rintro ⟨-, h, -⟩; exact hf h)
    obtain ⟨s, r, tm, hch⟩ : chA K.cN false w := by
      have := hs.chn
      rw [e1] at this
      exact this
    have hrun := crowd_waits (P := K.P) (sl := sl) (i := 2 + 1) hg (by simpa using hst) (by
      intro cc hcc
      simp at hcc
      subst hcc
      exact NoWays.recv K.zN hch hpp)
    rw [← Array.append_empty (xs := MemOp.ofEvents (2 + 1) g.frame.fn g.frame.place es)] at hrun
    have hq0 : q = false := by
      cases q with
      | false => rfl
      | true =>
        obtain ⟨g1, hg1, hw1⟩ := hs.wk 0 (by omega)
        rw [e1] at hw1
        obtain ⟨_, _, _, _, h, _⟩ := hw1.sndP_inv
        cases h
    subst hq0
    refine commOne (Q := .nar [] true) G hj hj3 ha hm hs hwg hmode htr hi hrun hev' (by simp) (m := 0) (.narP0 rfl fun w₁ h1 => ?_) h7 h0 ?_ ?_ (fun h => absurd rfl h) (by simp) (by rw [hp]; simp [Ph.rk])
    · obtain ⟨-, g₃, es', hb', hst', hev₁, hm'⟩ := hat w₁ h1
      refine ⟨rfl, g₃, es', ⟨hb'.1.trans hb.1.symm, hb'.2.1.trans hb.2.1.symm, hb'.2.2.trans hb.2.2.symm⟩, ?_, hev₁, hm'⟩
      rw [← hst']
      exact stepG_same hb.1 hb.2.1 hb.2.2 w₁
    · exact .inl ⟨false, e1, by simp⟩
    · have := hs.okb
      simp only [okB, hp] at this
      rcases this with h | ⟨-, h⟩
      · exact .inl h
      · exact .inr ⟨rfl, h⟩
end
end Go.Proofs.Ytmoajpkgdimdaaa
