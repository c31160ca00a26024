/- Three workers and their starter: whatever step of a worker's. -/
import Derived.Test.YtmoajpkgdimdaaaCrwF
set_option linter.unusedSectionVars false
set_option linter.unusedVariables false
namespace Go.Proofs.Ytmoajpkgdimdaaa
open Go.Conc Go.ConcN
open Go.ConcR (KK wgBlock WgAt stA smA rd wr mk Payload DC0 Bk g_of_ofEvents bk_of_mute ofEvent_loc_mark)
variable [Payload]

section
variable {K : Cst} {End Anch : Goroutine → World → Prop} {ns bs : List Value} {rs : List (Value × Value)} {W0 : World}
  {gs : Array Goroutine} {w w' : World} {sl : Option (Nat × Nat)} {j p i : Nat} {D D' : Nat → WD} {ph ph' : Nat → Ph} {tag : CTag} {f0 d0 : Nat} {a g g' g₂ : Goroutine} {t : Trace} {st sm : Int} {es : Array Event}

/-- A sender closes its channel. -/
theorem wClose (hA : ∀ g w, Anch g w → g.status = .running) (G : Geo K) (hj : 1 ≤ j) (ha : gs[0]? = some a) (hm : MS K End Anch ns bs rs tag j f0 d0 a w) (hs : Sys K ns bs rs W0 j gs w D ph) (hwg : WgAt K.ty K.Wg w st sm) (hmode : Go.ConcN.Mode 3 D tag st sm) (htr : Tr K p j w t D d0)
    (hi : i < j) (hg : gs[i + 1]? = some g) (hp : ph i = .snd [] false) (h7 : (D i).stage = 7) (h0 : (D i).deaf = 0) (hat : AtS K (i + 1) (chOf K i) (zOf K i) [] g w) : WGoal K End Anch ns bs rs W0 gs w sl i t D ph tag f0 := by
  have hj3 := hm.size
  have hi2 : i ≠ 2 := fun e => by subst e; exact hs.ph2 _ _ hp
  have hi01 : i = 0 ∨ i = 1 := by omega
  obtain ⟨hcc, s, r, tm, hch⟩ : (chOf K i = K.cN ∨ chOf K i = K.cB) ∧ chA (chOf K i) false w := by
    match i, hi2 with
    | 0, _ => have := hs.chn; rw [hp] at this; exact ⟨.inl rfl, this⟩
    | 1, _ => have := hs.chb; rw [hp] at this; exact ⟨.inr rfl, this⟩
    | 2, h => exact absurd rfl h
    | i + 3, _ => omega
  obtain ⟨hrun, hmw, hcl⟩ := hat
  obtain ⟨g', es, hgo, hev, hrun', m, hk⟩ := hcl s r tm hch
  generalize hw'e : w.setChan (chOf K i) 0 #[] true s r tm = w' at hgo hk
  have hlt : chOf K i < K.H0 := by rcases hcc with e | e <;> rw [e] <;> first | exact G.n | exact G.b
  have hat' : w'.heap[chOf K i]? = some (.chan 0 #[] true s r tm) := by rw [← hw'e]; exact setChan_at hch ..
  have hoth : ∀ b, b ≠ chOf K i → w'.heap[b]? = w.heap[b]? := fun b hb => by rw [← hw'e]; exact setChan_ne w hb ..
  have hsz : w'.heap.size = w.heap.size := by rw [← hw'e, setChan_size]
  have hWc : K.Wg ≠ chOf K i := by rcases hcc with e | e <;> rw [e] <;> first | exact G.wn | exact G.wb
  have hLc : K.Lb ≠ chOf K i := by rcases hcc with e | e <;> rw [e] <;> first | exact G.ln | exact G.lB
  have hwg' : WgAt K.ty K.Wg w' st sm := hwg.of_block (hoth _ hWc)
  have hr : ∀ k, Rly K k w w' := fun k => Rly.of_one (c := chOf K i) G (.inr hcc) hsz hoth fun _ => ⟨_, _, hwg'⟩
  have ht : Typ K w w' := .of_one hlt hoth
  have hDs : ∀ i', (upd D i ⟨7, m, 0⟩ i').stage = (D i').stage ∧ (upd D i ⟨7, m, 0⟩ i').deaf = (D i').deaf := fun i' => by
    by_cases e : i' = i
    · subst e; rw [upd_same]; exact ⟨h7.symm, h0.symm⟩
    · rw [upd_ne D _ e]; exact ⟨rfl, rfl⟩
  have chk : ∀ {c b}, chA c b w → c ≠ chOf K i → chA c b w' := fun ⟨s', r', tm', e⟩ hc => ⟨s', r', tm', (hoth _ hc).trans e⟩
  have chi : chA (chOf K i) true w' := ⟨_, _, _, hat'⟩
  have kept : Kept K W0 w' := hs.kept.of_old (by rw [← hw'e]; exact ⟨rfl, rfl, rfl⟩) (by rw [hsz]; exact Nat.le_refl _) fun b _ h2 h3 h4 _ => hoth b (by rcases hcc with e | e <;> rw [e] <;> assumption)
  have trace : Tr K p j w' (t ++ MemOp.ofEvents (i + 1) g.frame.fn g.frame.place es) (upd D i ⟨7, m, 0⟩) d0 := htr.own G hi hj3 h7 (fun e he => (hev e he).mono ht) ht hDs
  have mode : ∀ tag', (tag' = tag ∨ (tag = .blk ∧ tag' = .w3)) → (mayWake K.P g = true → g'.status = .running → tag' ≠ .blk) → Go.ConcN.Mode 3 (upd D i ⟨7, m, 0⟩) tag' st sm := fun _ ht _ => Mode.retag (hmode.congr fun i' _ => (hDs i').1) ht
  have hrk := fun Q => rks_upd (ph := ph) (Q := Q) (show i < 3 by omega)
  -- the receiver, parked at the narrow channel, nothing being due, wakes
  by_cases hwk : i = 0 ∧ ph 2 = .nar [] true
  · obtain ⟨rfl, e2⟩ := hwk
    have hph' : ∀ i', i' ≠ 0 → i' ≠ 2 → upd (upd ph 0 .rel) 2 (.nar [] false) i' = ph i' := fun i' h1 h2 => by rw [upd_ne _ _ h2, upd_ne _ _ h1]
    have okb := hs.okb
    simp only [okB, e2] at okb
    have h2j : 2 < j := by
      apply Classical.byContradiction
      intro h
      have := (hs.idle 2 (by omega) (by omega)).2
      rw [e2] at this; simp [ini] at this
    have hrk1 := hrk .rel
    have hrk2 := rks_upd (ph := upd ph 0 .rel) (i := 2) (Q := .nar [] false) (by omega)
    rw [upd_ne ph _ (by omega), e2] at hrk2
    rw [hp] at hrk1
    simp [Ph.rk] at hrk1 hrk2
    refine wGo (ph' := upd (upd ph 0 .rel) 2 (.nar [] false)) (x := ⟨7, m, 0⟩) hA hj ha hm hs hi hg hgo (hr 0) (by rw [upd_ne _ _ (by omega), upd_same]; exact .rel hk) ?_ (fun i' h1 h2 => hph' i' (by omega) (by omega)) ?_ ?_ ?_ ?_ ?_ kept trace hwg' mode (.inl ⟨?_, ?_⟩)
    · intro i' h1 h2 gi hwi
      by_cases e3 : i' = 2
      · subst e3
        rw [upd_same]
        rw [e2] at hwi
        have hh : ∀ {s m d : Nat}, WS K (2 + 1) (chOf K 2) (zOf K 2) (.nar [] true) s m d gi w → WS K (2 + 1) (chOf K 2) (zOf K 2) (.nar [] false) s m d (woken K.P g g' w' gi) w' := by
          intro s m d hwi
          cases hwi with
          | narP0 e h =>
            have : ∀ g₂, woken K.P g g' w' (Go.Conc.parked g₂ #[rcase K.cN K.zN] (.recv true)) = { Go.Conc.parked g₂ #[rcase K.cN K.zN] (.recv true) with status := .running } := fun g₂ => by
              unfold Go.Conc.woken
              rw [if_pos (by rw [hmw, hrun']; rfl)]
              exact again_recv_closed hat'
            rw [this]
            exact .nar rfl (Goes.stop fun w₁ h1 => h w₁ ((hr 3).trans h1))
        exact hh hwi
      · rw [hph' i' h2 e3]
        rw [hwi.woken g g' w' (fun l e => ?_) (fun l e => ?_) (fun b l e => ?_)]
        · exact hwi.rely G (hr _)
        · obtain rfl : i' = 1 := by omega
          obtain ⟨s', r', tm', e⟩ := (by have := hs.chb; rw [e] at this; exact this : chA K.cB false w)
          exact ⟨s', r', tm', (hoth _ (Ne.symm G.nb)).trans e⟩
        · obtain rfl : i' = 1 := by omega
          exact absurd e (hs.ph1 _ _)
        · obtain rfl : i' = 1 := by omega
          exact absurd e (hs.ph1b _ _ _)
    · rw [upd_same, upd_ne _ _ (by omega), upd_same]; exact .inr ⟨rfl, rfl, rfl⟩
    · rw [upd_same, hph' 1 (by omega) (by omega)]; rcases okb with h | ⟨-, h⟩ <;> first | exact .inl h | exact .inr ⟨rfl, h⟩
    · rw [upd_ne _ _ (by omega), upd_same]; exact chi
    · rw [hph' 1 (by omega) (by omega)]; exact chk hs.chb (Ne.symm G.nb)
    · exact ⟨fun e => by rw [upd_same] at e; simp at e, fun h3 => (hoth _ hLc).trans (hs.lost.2 h3)⟩
    · dsimp only; rw [h7]; omega
    · simp [cnt, h7]
  · have hph' : ∀ i', i' ≠ i → upd ph i .rel i' = ph i' := fun i' h1 => upd_ne _ _ h1
    have hrk1 := hrk .rel
    rw [hp] at hrk1
    simp [Ph.rk] at hrk1
    refine wGo (ph' := upd ph i .rel) (x := ⟨7, m, 0⟩) hA hj ha hm hs hi hg hgo (hr 0) (by rw [upd_same]; exact .rel hk) ?_ (fun i' h1 h2 => hph' i' (by omega)) ?_ ?_ ?_ ?_ ?_ kept trace hwg' mode (.inl ⟨?_, ?_⟩)
    · intro i' h1 h2 gi hwi
      rw [hph' i' h2]
      rw [hwi.woken g g' w' (fun l e => ?_) (fun l e => ?_) (fun b l e => ?_)]
      · exact hwi.rely G (hr _)
      · match i', h2, e with
        | 0, h2, e =>
          obtain ⟨s', r', tm', e⟩ := (by have := hs.chn; rw [e] at this; exact this : chA K.cN false w)
          exact ⟨s', r', tm', (hoth _ (by intro e'; rcases hi01 with rfl | rfl <;> first | exact absurd rfl h2 | exact G.nb e')).trans e⟩
        | 1, h2, e =>
          obtain ⟨s', r', tm', e⟩ := (by have := hs.chb; rw [e] at this; exact this : chA K.cB false w)
          exact ⟨s', r', tm', (hoth _ (by intro e'; rcases hi01 with rfl | rfl <;> first | exact absurd rfl h2 | exact G.nb e'.symm)).trans e⟩
        | 2, _, e => exact absurd e (hs.ph2 _ _)
        | q + 3, _, _ => omega
      · match i', h2, e with
        | 0, _, e => exact absurd e (hs.ph0 _ _)
        | 1, _, e => exact absurd e (hs.ph1 _ _)
        | 2, _, e =>
          rcases hi01 with rfl | rfl
          ·
            have := hs.okn
            simp only [okN, e, hp] at this
            rcases this with ⟨q, h, _⟩ | ⟨-, h, -⟩
            · injection h with h1 h2
              cases l with
              | nil => exact absurd ⟨rfl, e⟩ hwk
              | cons x l => cases h1
            · cases h
          ·
            have hf : (ph 0).fin = false := by
              have := hs.okn
              simp only [okN, e] at this
              rcases this with ⟨q, h, _⟩ | ⟨-, -, h⟩
              · rw [h]; rfl
              · cases h
            obtain ⟨s', r', tm', e⟩ := (by have := hs.chn; rw [hf] at this; exact this : chA K.cN false w)
            exact ⟨s', r', tm', (hoth _ (fun e' => G.nb e')).trans e⟩
        | q + 3, _, _ => omega
      · match i', h2, e with
        | 0, _, e => exact absurd e (hs.ph0b _ _ _)
        | 1, _, e => exact absurd e (hs.ph1b _ _ _)
        | 2, _, e =>
          have := hs.okb
          simp only [okB, e] at this
          obtain ⟨q, h, -⟩ := this
          rcases hi01 with rfl | rfl
          · obtain ⟨s', r', tm', e⟩ := (by have := hs.chb; rw [h] at this; exact this : chA K.cB false w)
            exact ⟨s', r', tm', (hoth _ (fun e' => G.nb e'.symm)).trans e⟩
          · rw [hp] at h; simp at h
        | q + 3, _, _ => omega
    · rcases hi01 with rfl | rfl
      ·
        have := hs.okn
        rw [upd_same, upd_ne _ _ (by omega)]
        cases e2 : ph 2 with
        | nar l q =>
          simp only [okN, e2, hp] at this ⊢
          rcases this with ⟨q', h, -⟩ | ⟨_, h, -⟩
          · injection h with h1 h2
            cases l with
            | cons x l => cases h1
            | nil =>
              cases q with
              | true => exact absurd ⟨rfl, e2⟩ hwk
              | false => exact .inr ⟨rfl, rfl, rfl⟩
          · cases h
        | brd b l q =>
          simp only [okN, e2, hp] at this ⊢
          rcases this with ⟨q', h⟩ | ⟨_, h⟩
          · injection h with h1 h2
            cases l with
            | cons x l => cases h1
            | nil => exact .inr ⟨rfl, rfl⟩
          · cases h
        | snd l q => exact absurd e2 (hs.ph2 _ _)
        | rel => rfl
        | lib => rfl
      ·
        rw [upd_ne _ _ (by omega), upd_ne _ _ (by omega)]
        exact hs.okn
    · rcases hi01 with rfl | rfl
      ·
        rw [upd_ne _ _ (by omega), upd_ne _ _ (by omega)]
        exact hs.okb
      ·
        have := hs.okb
        rw [upd_same, upd_ne _ _ (by omega)]
        cases e2 : ph 2 with
        | nar l q =>
          simp only [okB, e2, hp] at this ⊢
          rcases this with ⟨q', h⟩ | ⟨_, h⟩
          · injection h with h1 h2
            cases l with
            | cons x l => cases h1
            | nil => exact .inr ⟨rfl, rfl⟩
          · cases h
        | brd b l q =>
          simp only [okB, e2, hp] at this
          obtain ⟨q', h, -⟩ := this
          simp at h
        | snd l q => exact absurd e2 (hs.ph2 _ _)
        | rel => exact .inr rfl
        | lib => exact .inr rfl
    · rcases hi01 with rfl | rfl
      · rw [upd_same]; exact chi
      · rw [upd_ne _ _ (by omega)]; exact chk hs.chn (fun e' => G.nb e')
    · rcases hi01 with rfl | rfl
      · rw [upd_ne _ _ (by omega)]; exact chk hs.chb (fun e' => G.nb e'.symm)
      · rw [upd_same]; exact chi
    · refine ⟨fun e => ?_, fun h3 => (hoth _ hLc).trans (hs.lost.2 h3)⟩
      rw [hph' 2 (Ne.symm hi2)] at e
      exact (hoth _ hLc).trans (hs.lost.1 e)
    · dsimp only; rw [h7]; omega
    · simp [cnt, h7]
end
end Go.Proofs.Ytmoajpkgdimdaaa
