/- Three workers and their starter: the invariant; nobody is stuck; what a step adds to the trace. -/
import Derived.Test.YtmoajpkgdimdaaaCrwB
set_option linter.unusedSectionVars false
set_option linter.unusedVariables false
namespace Go.Proofs.Ytmoajpkgdimdaaa
open Go.Conc Go.ConcN
open Go.ConcR (KK wgBlock WgAt stA smA rd wr mk Payload DC0 Bk g_of_ofEvents ofEvent_loc_mark ofEvent_cell ofEvent_mk loc_of_ofEvent deafBehind_cons deafBehind_one)
variable [Payload]

def okN (pn pr : Ph) : Prop := match pr with
  | .nar l p => (∃ q, pn = .snd (l.map Prod.fst) q ∧ ¬ (q = true ∧ p = true)) ∨ (l = [] ∧ pn.fin = true ∧ p = false)
  | .brd _ l _ => (∃ q, pn = .snd (l.map Prod.fst) q) ∨ (l = [] ∧ pn.fin = true)
  | .snd _ _ => False
  | _ => pn.fin = true
def okB (pb pr : Ph) : Prop := match pr with
  | .nar l _ => (∃ q, pb = .snd (l.map Prod.snd) q) ∨ (l = [] ∧ pb.fin = true)
  | .brd b l p => ∃ q, pb = .snd (b :: l.map Prod.snd) q ∧ ¬ (q = true ∧ p = true)
  | .snd _ _ => False
  | _ => (∃ q, pb = .snd [] q) ∨ pb.fin = true
def chA (c : Nat) (cl : Bool) (w : World) : Prop := ∃ s r tm, w.heap[c]? = some (.chan 0 #[] cl s r tm)
def rks (ph : Nat → Ph) : Nat := (ph 0).rk + (ph 1).rk + (ph 2).rk

section
variable (K : Cst) (End Anch : Goroutine → World → Prop) (ns bs : List Value) (rs : List (Value × Value)) (W0 : World)
structure Kept (w : World) : Prop where
  out : w.tape = W0.tape ∧ w.os = W0.os ∧ w.output = W0.output
  size : W0.heap.size ≤ w.heap.size
  old : ∀ b, b < K.H0 → b ≠ K.Wg → b ≠ K.cN → b ≠ K.cB → b ≠ K.Lb → w.heap[b]? = W0.heap[b]?
structure Sys (j : Nat) (gs : Array Goroutine) (w : World) (D : Nat → WD) (ph : Nat → Ph) : Prop where
  size : gs.size = j + 1
  wk : ∀ i, i < j → ∃ g, gs[i + 1]? = some g ∧ WS K (i + 1) (chOf K i) (zOf K i) (ph i) (D i).stage (D i).fuel (D i).deaf g w
  idle : ∀ i, j ≤ i → i < 3 → D i = ⟨7, 0, 0⟩ ∧ ph i = ini ns bs rs i
  okn : okN (ph 0) (ph 2)
  okb : okB (ph 1) (ph 2)
  chn : chA K.cN (ph 0).fin w
  chb : chA K.cB (ph 1).fin w
  lost : (ph 2 = .lib → w.heap[K.Lb]? = some K.lost) ∧ (j < 3 → w.heap[K.Lb]? = some K.lost0)
  kept : Kept K W0 w
structure Tr (p j : Nat) (w : World) (t : Trace) (D : Nat → WD) (d0 : Nat) : Prop where
  tl : TL K p j w t
  norel : NoRelease (stA K.Wg) t
  deaf0 : Deaf t 0 = d0
  deafW : ∀ i, i < 3 → Deaf t (i + 1) = (D i).deaf
  rel : ∀ i, i < 3 → (D i).stage ≤ 6 → ∃ r, RelBy (stA K.Wg) t (i + 1) r
def Mu (ph : Nat → Ph) (D : Nat → WD) (tag : CTag) (f0 : Nat) : Nat × Nat := (phi 3 (Vc 3 D) tag + Ssum 3 D + rks ph, f0 + 2 * Fsum 3 D)
def CInv (μ : Nat × Nat) (m : Machine) (t : Trace) : Prop :=
  ∃ (gs : Array Goroutine) (w : World) (sl : Option (Nat × Nat)) (j p : Nat) (D : Nat → WD) (ph : Nat → Ph) (tag : CTag) (f0 d0 : Nat) (a : Goroutine) (st sm : Int),
    m = crowd gs w sl ∧ 1 ≤ j ∧ gs[0]? = some a ∧ MS K End Anch ns bs rs tag j f0 d0 a w ∧ Sys K ns bs rs W0 j gs w D ph ∧ WgAt K.ty K.Wg w st sm ∧ Go.ConcN.Mode 3 D tag st sm ∧ Tr K p j w t D d0 ∧ μ = Mu ph D tag f0
end

section
variable {K : Cst} {End Anch : Goroutine → World → Prop} {ns bs : List Value} {rs : List (Value × Value)} {W0 : World}
  {gs : Array Goroutine} {w w' : World} {sl : Option (Nat × Nat)} {j p : Nat} {D D' : Nat → WD} {ph : Nat → Ph} {tag : CTag} {f0 d0 : Nat} {a : Goroutine} {t u : Trace} {st sm : Int}
theorem Kept.of_old (h : Kept K W0 w) (h1 : w'.tape = w.tape ∧ w'.os = w.os ∧ w'.output = w.output) (h2 : w.heap.size ≤ w'.heap.size) (h3 : ∀ b, b < K.H0 → b ≠ K.Wg → b ≠ K.cN → b ≠ K.cB → b ≠ K.Lb → w'.heap[b]? = w.heap[b]?) : Kept K W0 w' :=
  ⟨⟨h1.1.trans h.out.1, h1.2.1.trans h.out.2.1, h1.2.2.trans h.out.2.2⟩, Nat.le_trans h.size h2, fun b a1 a2 a3 a4 a5 => (h3 b a1 a2 a3 a4 a5).trans (h.old b a1 a2 a3 a4 a5)⟩
theorem Sys.at (G : Geo K) (h : Sys K ns bs rs W0 j gs w D ph) (d : Nat) : Sys K ns bs rs W0 j gs (w.at d) D ph :=
  ⟨h.size, fun i hi => let ⟨g, a, b⟩ := h.wk i hi; ⟨g, a, b.rely G (Rly.at w d)⟩, h.idle, h.okn, h.okb, h.chn, h.chb, h.lost, ⟨h.kept.out, h.kept.size, h.kept.old⟩⟩
/-- NOBODY IS STUCK. -/
theorem cinv_runs (hA : ∀ g w, Anch g w → g.status = .running) (hj : 1 ≤ j) (ha : gs[0]? = some a) (hm : MS K End Anch ns bs rs tag j f0 d0 a w) (hs : Sys K ns bs rs W0 j gs w D ph) (hmode : Go.ConcN.Mode 3 D tag st sm) :
    ∃ (i : Nat) (g : Goroutine), gs[i]? = some g ∧ g.status = .running := by
  rcases hm.status hA with ⟨hr, _⟩ | ⟨_, rfl⟩
  · exact ⟨0, a, ha, hr⟩
  obtain rfl : j = 3 := by cases hm; rfl
  have run : ∀ i, i < 3 → (ph i).pk = false → (D i).stage ≠ 1 → ∃ (i : Nat) (g : Goroutine), gs[i]? = some g ∧ g.status = .running := fun i hi hp h1 => by
    obtain ⟨g, hg, hw⟩ := hs.wk i hi
    exact ⟨i + 1, g, hg, hw.run hp h1⟩
  have st7 : ∀ i, i < 3 → ph i ≠ .lib → (D i).stage = 7 := fun i hi hp => by
    obtain ⟨g, hg, hw⟩ := hs.wk i hi
    exact (hw.stage7 hp).1
  by_cases h2 : (ph 2).pk = true
  · cases e : ph 2 with
    | nar l q =>
      rw [e] at h2
      have hq : q = true := h2
      subst hq
      have := hs.okn
      simp only [okN, e] at this
      rcases this with ⟨q, e0, hq⟩ | ⟨_, _, h⟩
      · exact run 0 (by omega) (by rw [e0]; simp [Ph.pk]; cases q <;> simp_all) (by rw [st7 0 (by omega) (by rw [e0]; simp)]; omega)
      · cases h
    | brd b l q =>
      rw [e] at h2
      have hq : q = true := h2
      subst hq
      have := hs.okb
      simp only [okB, e] at this
      obtain ⟨q, e0, hq⟩ := this
      exact run 1 (by omega) (by rw [e0]; simp [Ph.pk]; cases q <;> simp_all) (by rw [st7 1 (by omega) (by rw [e0]; simp)]; omega)
    | snd l q => have := hs.okn; simp [okN, e] at this
    | rel => rw [e] at h2; cases h2
    | lib => rw [e] at h2; cases h2
  · have h2 : (ph 2).pk = false := by simpa using h2
    by_cases hl : ph 2 = .lib
    · -- the receiver is leaving: so are the others, or they run
      have hn := hs.okn
      have hb := hs.okb
      simp only [okN, okB, hl] at hn hb
      have p0 : (ph 0).pk = false := by cases e : ph 0 <;> rw [e] at hn <;> first | rfl | cases hn
      have p1 : (ph 1).pk = false := by
        rcases hb with ⟨q, e⟩ | h
        · obtain ⟨g, hg, hw⟩ := hs.wk 1 (by omega)
          rw [e] at hw ⊢
          cases q
          · rfl
          · generalize (D 1).stage = s at hw; generalize (D 1).fuel = m at hw; generalize (D 1).deaf = d at hw; cases hw
        · cases e : ph 1 <;> rw [e] at h <;> first | rfl | cases h
      have pk : ∀ i, i < 3 → (ph i).pk = false := fun i hi => by
        match i, hi with
        | 0, _ => exact p0
        | 1, _ => exact p1
        | 2, _ => exact h2
      cases hmode with
      | opn h1 _ _ => exact h1.elim
      | reg _ _ h3 =>
        obtain ⟨i, hi, h5⟩ := exists_counted h3
        exact run i hi (pk i hi) (by omega)
      | last L _ h2 h3 _ => exact run L h2 (pk L h2) (by omega)
      | fin h1 _ => exact h1.elim
    · exact run 2 (by omega) h2 (by rw [st7 2 (by omega) hl]; omega)
theorem cinv_awake (hA : ∀ g w, Anch g w → g.status = .running) (ha : gs[0]? = some a) (hm : MS K End Anch ns bs rs tag j f0 d0 a w) (hs : Sys K ns bs rs W0 j gs w D ph) : ∀ g ∈ gs, awake g := by
  intro g hg tm
  obtain ⟨i, hi⟩ := Array.mem_iff_getElem?.1 hg
  cases i with
  | zero =>
    rw [ha] at hi; cases hi
    rcases hm.status hA with ⟨h, _⟩ | ⟨h, _⟩ <;> rw [h] <;> simp
  | succ i =>
    have hlt : i < j := by have := (Array.getElem?_eq_some_iff.1 hi).1; rw [hs.size] at this; omega
    obtain ⟨g', hg', hw⟩ := hs.wk i hlt
    rw [hi] at hg'; cases hg'
    rcases hw.status with ⟨_, h | h⟩ | ⟨_, h⟩ <;> rw [h] <;> simp

/-! ### the trace -/
theorem nt_of_ofEvents {k : Nat} {fn : FuncId} {pos : String} {es : Array Event} (h : ∀ e ∈ es, ∀ x, (MemAct.ofEvent e).touch? = some x → NT K k w x) : ∀ op ∈ MemOp.ofEvents k fn pos es, op.g = k ∧ ∀ x, op.act.touch? = some x → NT K k w x := by
  intro op hop
  rw [ofEvents_eq] at hop
  obtain ⟨e, he, rfl⟩ := Array.mem_map.1 hop
  exact ⟨rfl, h e he⟩
/-- Operations that touch nothing and say nothing. -/
theorem TL.silent (h : TL K p j w t) (hu : ∀ op ∈ u, op.act.touch? = none ∧ op.g ≤ j) (ht : Typ K w w') : TL K p j w' (t ++ u) := by
  refine ⟨by have := h.pos; simp; omega, fun i op hi e => ?_, fun k' h1 h2 i hi => (h.kn k' h1 h2 i hi).app u, fun i op x hi e hx => ?_, fun said => ?_, fun i op e => ?_⟩
  · rw [getElem?_append_old (Nat.lt_of_lt_of_le hi h.pos)] at e
    exact h.old i op hi e
  · rcases getElem?_append_cases e with ⟨_, e'⟩ | ⟨_, hop⟩
    · exact (h.new i op x hi e' hx).mono ht
    · rw [(hu op hop).1] at hx; cases hx
  · rintro ⟨i, k, hik, ⟨x, y, hx, hy, hc⟩, n1, n2⟩
    obtain ⟨ox, hox, hox'⟩ := touch_of hx
    obtain ⟨oy, hoy, hoy'⟩ := touch_of hy
    rcases getElem?_append_cases hoy with ⟨hlt, hoy2⟩ | ⟨_, hop⟩
    · have hi : i < t.size := Nat.lt_trans hik hlt
      have hox2 : t[i]? = some ox := by rw [← getElem?_append_old (u := u) hi]; exact hox
      exact h.nr said ⟨i, k, hik, ⟨x, y, by simp [Trace.act?, hox2, hox'], by simp [Trace.act?, hoy2, hoy'], hc⟩, fun e => n1 (hb_app u e), fun e => n2 (hb_app u e)⟩
    · rw [(hu oy hop).1] at hoy'; cases hoy'
  · rcases getElem?_append_cases e with ⟨_, e'⟩ | ⟨_, hop⟩
    · exact h.gs i op e'
    · exact (hu op hop).2
theorem RelBy.quiet {a : Addr} {k r : Nat} (h : RelBy a t k r) (hu : ∀ op ∈ u, op.act.touch? = none) : RelBy a (t ++ u) k r := by
  refine h.app fun i hi _ hc => ?_
  obtain ⟨x, hx, _⟩ := hc
  obtain ⟨op, ho, hox⟩ := touch_of hx
  rcases getElem?_append_cases ho with ⟨hlt, _⟩ | ⟨_, hop⟩
  · omega
  · rw [hu op hop] at hox; cases hox
/-- A communication's own entries. -/
theorem Tr.comm (h : Tr K p j w t D d0) (hu : ∀ op ∈ u, op.act.touch? = none ∧ op.g ≤ j ∧ ∀ m, op.act ≠ .mark m) (ht : Typ K w w') (hD : ∀ i, (D' i).stage = (D i).stage ∧ (D' i).deaf = (D i).deaf) : Tr K p j w' (t ++ u) D' d0 := by
  have dst : ∀ g, Deaf (t ++ u) g = Deaf t g := fun g => Go.ConcN.Deaf_still t g u fun op hop => ⟨(hu op hop).2.2 _, (hu op hop).2.2 _⟩
  exact ⟨h.tl.silent (fun op hop => ⟨(hu op hop).1, (hu op hop).2.1⟩) ht, h.norel.app fun op hop => (hu op hop).2.2 _, (dst 0).trans h.deaf0, fun i hi => by rw [dst, h.deafW i hi, (hD i).2],
    fun i hi h6 => let ⟨r, hr⟩ := h.rel i hi (by rw [← (hD i).1]; exact h6); ⟨r, RelBy.quiet hr fun op hop => (hu op hop).1⟩⟩
/-- A worker's own step while it works. -/
theorem Tr.own (G : Geo K) (h : Tr K p j w t D d0) {i : Nat} (hi : i < j) (hj : j ≤ 3) (h7 : (D i).stage = 7) {fn : FuncId} {pos : String} {es : Array Event} (hes : ∀ e ∈ es, EvK K (i + 1) w' e) (ht : Typ K w w')
    (hD : ∀ i, (D' i).stage = (D i).stage ∧ (D' i).deaf = (D i).deaf) : Tr K p j w' (t ++ MemOp.ofEvents (i + 1) fn pos es) D' d0 := by
  refine ⟨h.tl.app G (by omega) (nt_of_ofEvents fun e he => (hes e he).2.2.2) ht, h.norel.app (norel_of fun e he => (hes e he).2.2.1), (Deaf_other t (by omega) _ g_of_ofEvents).trans h.deaf0, fun i' hi' => ?_, fun i' hi' h6 => ?_⟩
  · by_cases e : i' = i
    · subst e
      rw [Deaf_own, deafBehind_idle (fun e he => ⟨(hes e he).1, (hes e he).2.1⟩), h.deafW i' hi', (hD i').2]
    · rw [Deaf_other t (by omega) _ g_of_ofEvents, h.deafW i' hi', (hD i').2]
  · have e : i' ≠ i := by rintro rfl; have := (hD i').1; omega
    obtain ⟨r, hr⟩ := h.rel i' hi' (by rw [← (hD i').1]; exact h6)
    exact ⟨r, hr.appOther g_of_ofEvents (by omega)⟩
/-- The library's bookkeeping, by worker i. -/
theorem Tr.book (G : Geo K) (h : Tr K p j w t D d0) {i : Nat} (hi : i < j) (hj : j ≤ 3) {fn : FuncId} {pos : String} {es : Array Event} {x : WD} (hbk : ∀ e ∈ es, Bk K.Wg e) (ht : Typ K w w') (hd : deafBehind (D i).deaf es = x.deaf)
    (hrel : x.stage ≤ 6 → ∃ r, RelBy (stA K.Wg) (t ++ MemOp.ofEvents (i + 1) fn pos es) (i + 1) r) : Tr K p j w' (t ++ MemOp.ofEvents (i + 1) fn pos es) (upd D i x) d0 := by
  have nt : ∀ e ∈ es, ∀ x, (MemAct.ofEvent e).touch? = some x → NT K (i + 1) w' x := fun e he x hx => by
    rcases hbk e he with h1 | h1 | ⟨a, wr, rfl, ha⟩
    · simp only [ofEvent_loc_mark h1] at hx; cases hx
    · simp only [ofEvent_loc_mark h1] at hx; cases hx
    · simp only [ofEvent_cell, MemAct.touch?, Option.some.injEq] at hx
      subst hx
      exact .inl ⟨by simp, .inl ⟨a, rfl, ha⟩⟩
  refine ⟨h.tl.app G (by omega) (nt_of_ofEvents nt) ht, h.norel.app (norel_of (norel_of_Bk hbk)), (Deaf_other t (by omega) _ g_of_ofEvents).trans h.deaf0, fun i' hi' => ?_, fun i' hi' h6 => ?_⟩
  · by_cases e : i' = i
    · subst e
      rw [upd_same, Deaf_own, h.deafW i' hi', hd]
    · rw [upd_ne D _ e, Deaf_other t (by omega) _ g_of_ofEvents, h.deafW i' hi']
  · by_cases e : i' = i
    · subst e
      rw [upd_same] at h6
      exact hrel h6
    · rw [upd_ne D _ e] at h6
      obtain ⟨r, hr⟩ := h.rel i' hi' h6
      exact ⟨r, hr.appOther g_of_ofEvents (by omega)⟩
/-- The release. -/
theorem Tr.release (G : Geo K) (h : Tr K p j w t D d0) {i m : Nat} (hi : i < j) (hj : j ≤ 3) (h0 : (D i).deaf = 0) (fn : FuncId) (pos : String) : Tr K p j w (t ++ MemOp.ofEvents (i + 1) fn pos #[Go.ConcR.mk (.releaseMerge (stA K.Wg))]) (upd D i ⟨6, m, 0⟩) d0 := by
  have ev : ∀ e ∈ #[Go.ConcR.mk (.releaseMerge (stA K.Wg))], e.loc ≠ .mark .disable ∧ e.loc ≠ .mark .enable ∧ e.loc ≠ .mark (.release (stA K.Wg)) ∧ (MemAct.ofEvent e).touch? = none := by
    intro e he; simp at he; subst he; exact ⟨by simp [Go.ConcR.mk], by simp [Go.ConcR.mk], by simp [Go.ConcR.mk], rfl⟩
  refine ⟨h.tl.app G (by omega) (nt_of_ofEvents fun e he x hx => by rw [(ev e he).2.2.2] at hx; cases hx) (.refl w), h.norel.app (norel_of fun e he => (ev e he).2.2.1), (Deaf_other t (by omega) _ g_of_ofEvents).trans h.deaf0, fun i' hi' => ?_, fun i' hi' h6 => ?_⟩
  · by_cases e : i' = i
    · subst e
      rw [upd_same, Deaf_own, deafBehind_idle (fun e he => ⟨(ev e he).1, (ev e he).2.1⟩), h.deafW i' hi', h0]
    · rw [upd_ne D _ e, Deaf_other t (by omega) _ g_of_ofEvents, h.deafW i' hi']
  · by_cases e : i' = i
    · subst e
      exact ⟨t.size, RelBy.new (by rw [h.deafW i' hi', h0]) _ _⟩
    · rw [upd_ne D _ e] at h6
      obtain ⟨r, hr⟩ := h.rel i' hi' h6
      exact ⟨r, hr.appOther g_of_ofEvents (by omega)⟩
/-- The library's bookkeeping, by the starter. -/
theorem Tr.book0 (G : Geo K) (h : Tr K p j w t D d0) {fn : FuncId} {pos : String} {es : Array Event} (hbk : ∀ e ∈ es, Bk K.Wg e) (ht : Typ K w w') : Tr K p j w' (t ++ MemOp.ofEvents 0 fn pos es) D (deafBehind d0 es) := by
  have nt : ∀ e ∈ es, ∀ x, (MemAct.ofEvent e).touch? = some x → NT K 0 w' x := fun e he x hx => by
    rcases hbk e he with h1 | h1 | ⟨a, wr, rfl, ha⟩
    · simp only [ofEvent_loc_mark h1] at hx; cases hx
    · simp only [ofEvent_loc_mark h1] at hx; cases hx
    · simp only [ofEvent_cell, MemAct.touch?, Option.some.injEq] at hx
      subst hx
      exact .inl ⟨by simp, .inl ⟨a, rfl, ha⟩⟩
  refine ⟨h.tl.app G (by omega) (nt_of_ofEvents nt) ht, h.norel.app (norel_of (norel_of_Bk hbk)), by rw [Deaf_own, h.deaf0], fun i' hi' => ?_, fun i' hi' h6 => ?_⟩
  · rw [Deaf_other t (by omega) _ g_of_ofEvents, h.deafW i' hi']
  · obtain ⟨r, hr⟩ := h.rel i' hi' h6
    exact ⟨r, hr.appOther g_of_ofEvents (by omega)⟩
/-- The starter's own step. -/
theorem Tr.own0 (G : Geo K) (h : Tr K p j w t D d0) {fn : FuncId} {pos : String} {es : Array Event} (hes : ∀ e ∈ es, EvM K e) : Tr K p j w (t ++ MemOp.ofEvents 0 fn pos es) D d0 := by
  refine ⟨h.tl.app G (by omega) (nt_of_ofEvents fun e he x hx => .inr (.inl ⟨rfl, (hes e he).2.2.2 x hx⟩)) (.refl w), h.norel.app (norel_of fun e he => (hes e he).2.2.1), ?_, fun i' hi' => ?_, fun i' hi' h6 => ?_⟩
  · rw [Deaf_own, h.deaf0]; exact deafBehind_idle (fun e he => ⟨(hes e he).1, (hes e he).2.1⟩) _
  · rw [Deaf_other t (by omega) _ g_of_ofEvents, h.deafW i' hi']
  · obtain ⟨r, hr⟩ := h.rel i' hi' h6
    exact ⟨r, hr.appOther g_of_ofEvents (by omega)⟩
end
end Go.Proofs.Ytmoajpkgdimdaaa
