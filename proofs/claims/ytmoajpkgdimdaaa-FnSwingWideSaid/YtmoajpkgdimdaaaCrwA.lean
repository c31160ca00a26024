/- Three workers and their starter, each with places of its own BY THE TYPE of a block: the relies, the guarantee, the law of the trace. -/
import Derived.Test.YtmoajpkgdimdaaaSemM
import Derived.Conc.CrowdRun
namespace Go.Proofs.Ytmoajpkgdimdaaa
open Go.Conc Go.ConcN
open Go.ConcR (KK wgBlock WgAt stA smA rd wr mk Payload DC0)

/-- The numbers: the group's block, the boxes of the swing, of 'lost', the two channels; H0: below it lies what was there at the first fork; the types of a box and of a row. -/
structure Cst where
  P : Program
  ty : TypeId
  Wg : Nat
  C : Nat
  Lb : Nat
  cN : Nat
  cB : Nat
  H0 : Nat
  tb : TypeId
  tr : TypeId
  zN : Value
  zB : Value
  val : Nat → Value
  lost : Obj
  lost0 : Obj
structure Geo (K : Cst) : Prop where
  wg : K.Wg < K.H0
  c : K.C < K.H0
  lb : K.Lb < K.H0
  n : K.cN < K.H0
  b : K.cB < K.H0
  wc : K.Wg ≠ K.C
  wl : K.Wg ≠ K.Lb
  wn : K.Wg ≠ K.cN
  wb : K.Wg ≠ K.cB
  cl : K.C ≠ K.Lb
  cn : K.C ≠ K.cN
  cb : K.C ≠ K.cB
  ln : K.Lb ≠ K.cN
  lB : K.Lb ≠ K.cB
  nb : K.cN ≠ K.cB
  tt : K.tb ≠ K.tr

section
variable (K : Cst)
/-- What goroutine k suffers. -/
structure Rly (k : Nat) (w w₁ : World) : Prop where
  size : w.heap.size ≤ w₁.heap.size
  live : WgLive K.ty K.Wg w → WgLive K.ty K.Wg w₁
  old : ∀ b, b < K.H0 → b ≠ K.Wg → b ≠ K.cN → b ≠ K.cB → (b = K.Lb → k = 3) → w₁.heap[b]? = w.heap[b]?
  box : ∀ b cs, K.H0 ≤ b → w.heap[b]? = some (.cells cs K.tb) → w₁.heap[b]? = some (.cells cs K.tb)
  row : k = 1 → ∀ b cs, K.H0 ≤ b → w.heap[b]? = some (.cells cs K.tr) → w₁.heap[b]? = some (.cells cs K.tr)
/-- The types stand. -/
structure Typ (w w' : World) : Prop where
  box : ∀ b cs, K.H0 ≤ b → w.heap[b]? = some (.cells cs K.tb) → ∃ cs', w'.heap[b]? = some (.cells cs' K.tb)
  row : ∀ b cs, K.H0 ≤ b → w.heap[b]? = some (.cells cs K.tr) → ∃ cs', w'.heap[b]? = some (.cells cs' K.tr)
def RO (w : World) (b : Nat) : Prop := (b < K.H0 ∧ b ≠ K.Wg ∧ b ≠ K.Lb) ∨ (K.H0 ≤ b ∧ ∃ cs, w.heap[b]? = some (.cells cs K.tb))
def Row (w : World) (b : Nat) : Prop := K.H0 ≤ b ∧ ∃ cs, w.heap[b]? = some (.cells cs K.tr)
/-- What goroutine k may touch. -/
def Tch (k : Nat) (w : World) (x : Touch) : Prop :=
  x.kind ≠ .atomic ∧ ∃ a, x.loc = .cell a ∧ ((x.write = false ∧ RO K w a.block) ∨ (k = 1 ∧ Row K w a.block) ∨ (k = 3 ∧ a.block = K.Lb))
def NT (k : Nat) (w : World) (x : Touch) : Prop := (x.kind = .atomic ∧ ((∃ a, x.loc = .cell a ∧ a.block = K.Wg) ∨ ∃ c, c < K.H0 ∧ x.loc = .obj c)) ∨ (k = 0 ∧ x.kind = .said ∧ ∃ a, x.loc = .cell a ∧ a.block = K.Wg) ∨ Tch K k w x
def EvK (k : Nat) (w : World) (e : Event) : Prop := e.loc ≠ .mark .disable ∧ e.loc ≠ .mark .enable ∧ e.loc ≠ .mark (.release (stA K.Wg)) ∧ ∀ x, (MemAct.ofEvent e).touch? = some x → NT K k w x
/-- What the starter's own step lists: the library's word on the group's cells. -/
def EvM (e : Event) : Prop := e.loc ≠ .mark .disable ∧ e.loc ≠ .mark .enable ∧ e.loc ≠ .mark (.release (stA K.Wg)) ∧ ∀ x, (MemAct.ofEvent e).touch? = some x → x.kind = .said ∧ ∃ a, x.loc = .cell a ∧ a.block = K.Wg
def DM (w w' : World) (es : Array Event) : Prop := w' = w ∧ ∀ e ∈ es, EvM K e
/-- What an own step of worker k does. -/
structure Gua (k : Nat) (w w' : World) (es : Array Event) : Prop where
  out : w'.tape = w.tape ∧ w'.os = w.os ∧ w'.output = w.output
  size : w.heap.size ≤ w'.heap.size
  old : ∀ b, b < K.H0 → (b = K.Lb → k ≠ 3) → w'.heap[b]? = w.heap[b]?
  box : ∀ b cs, K.H0 ≤ b → w.heap[b]? = some (.cells cs K.tb) → w'.heap[b]? = some (.cells cs K.tb)
  row : ∀ b cs, K.H0 ≤ b → w.heap[b]? = some (.cells cs K.tr) → ∃ cs', w'.heap[b]? = some (.cells cs' K.tr) ∧ (k ≠ 1 → cs' = cs)
  ev : ∀ e ∈ es, EvK K k w' e
/-- The law of the trace: the first p operations are the starter's, known to every worker; behind them each touches what it may. -/
structure TL (p j : Nat) (w : World) (t : Trace) : Prop where
  pos : p ≤ t.size
  old : ∀ (i : Nat) (op : MemOp), i < p → t[i]? = some op → op.g = 0
  kn : ∀ k, 1 ≤ k → k ≤ j → ∀ i, i < p → Knows t k i
  new : ∀ (i : Nat) (op : MemOp) (x : Touch), p ≤ i → t[i]? = some op → op.act.touch? = some x → NT K op.g w x
  nr : ∀ said, ¬ Race said t
  gs : ∀ (i : Nat) (op : MemOp), t[i]? = some op → op.g ≤ j
end

section
variable {K : Cst} {k : Nat} {w w₁ w₂ w' : World} {es : Array Event}
theorem Rly.refl (w : World) : Rly K k w w := ⟨Nat.le_refl _, id, fun _ _ _ _ _ _ => rfl, fun _ _ _ h => h, fun _ _ _ _ h => h⟩
theorem Rly.trans (h : Rly K k w w₁) (h' : Rly K k w₁ w₂) : Rly K k w w₂ :=
  ⟨Nat.le_trans h.size h'.size, h'.live ∘ h.live, fun b a c d e f => (h'.old b a c d e f).trans (h.old b a c d e f), fun b cs a c => h'.box b cs a (h.box b cs a c), fun k1 b cs a c => h'.row k1 b cs a (h.row k1 b cs a c)⟩
theorem Rly.at (w : World) (d : Nat) : Rly K k w (w.at d) := ⟨Nat.le_refl _, id, fun _ _ _ _ _ _ => rfl, fun _ _ _ h => h, fun _ _ _ _ h => h⟩
/-- The group's block, or a channel's, turns. -/
theorem Rly.of_one {c : Nat} (G : Geo K) (hc : c = K.Wg ∨ c = K.cN ∨ c = K.cB) (hs : w'.heap.size = w.heap.size) (h : ∀ b, b ≠ c → w'.heap[b]? = w.heap[b]?) (hl : WgLive K.ty K.Wg w → WgLive K.ty K.Wg w') : Rly K k w w' := by
  have hlt : c < K.H0 := by rcases hc with rfl | rfl | rfl <;> first | exact G.wg | exact G.n | exact G.b
  refine ⟨by omega, hl, fun b _ h1 h2 h3 _ => h b ?_, fun b cs hb e => by rw [h b (by omega)]; exact e, fun _ b cs hb e => by rw [h b (by omega)]; exact e⟩
  rcases hc with rfl | rfl | rfl <;> assumption
theorem Rly.rw {i : Nat} [Payload] (G : Geo K) (h : Rly K k w w₁) : RW K.ty K.Wg K.C 3 0 i w w₁ := by
  have e := h.old K.C G.c (Ne.symm G.wc) G.cn G.cb (fun e => absurd e G.cl)
  exact ⟨fun b hb => absurd hb (Nat.not_lt_zero _), h.live, fun ⟨cs, a, b⟩ => ⟨cs, e.trans a, b⟩, cell_of_block e i⟩
theorem Typ.refl (w : World) : Typ K w w := ⟨fun _ cs _ h => ⟨cs, h⟩, fun _ cs _ h => ⟨cs, h⟩⟩
theorem Typ.of_one {c : Nat} (hc : c < K.H0) (h : ∀ b, b ≠ c → w'.heap[b]? = w.heap[b]?) : Typ K w w' :=
  ⟨fun b cs hb e => ⟨cs, by rw [h b (by omega)]; exact e⟩, fun b cs hb e => ⟨cs, by rw [h b (by omega)]; exact e⟩⟩
theorem Gua.typ (h : Gua K k w w' es) : Typ K w w' := ⟨fun b cs hb e => ⟨cs, h.box b cs hb e⟩, fun b cs hb e => let ⟨cs', a, _⟩ := h.row b cs hb e; ⟨cs', a⟩⟩
theorem Gua.rly {i : Nat} (h : Gua K k w w' es) (G : Geo K) (hi : i ≠ k) : Rly K i w w' := by
  refine ⟨h.size, fun ⟨st, sm, e⟩ => ⟨st, sm, e.of_block (h.old _ G.wg fun e => absurd e G.wl)⟩, fun b hb _ _ _ hl => h.old b hb fun e => by have := hl e; omega, h.box, fun k1 b cs hb e => ?_⟩
  obtain ⟨cs', a, b'⟩ := h.row b cs hb e
  rw [a, b' (by omega)]
theorem Gua.idle (w : World) : Gua K k w w #[] := ⟨⟨rfl, rfl, rfl⟩, Nat.le_refl _, fun _ _ _ => rfl, fun _ _ _ h => h, fun _ cs _ h => ⟨cs, h, fun _ => rfl⟩, by simp⟩
theorem RO.mono {b : Nat} (h : RO K w b) (ht : Typ K w w') : RO K w' b := h.imp id fun ⟨a, cs, e⟩ => ⟨a, ht.box b cs a e⟩
theorem Row.mono {b : Nat} (h : Row K w b) (ht : Typ K w w') : Row K w' b := let ⟨a, cs, e⟩ := h; ⟨a, ht.row b cs a e⟩
theorem NT.mono {x : Touch} (h : NT K k w x) (ht : Typ K w w') : NT K k w' x :=
  h.imp id (Or.imp id fun ⟨a, ad, b, c⟩ => ⟨a, ad, b, c.imp (fun ⟨d, e⟩ => ⟨d, e.mono ht⟩) (Or.imp (fun ⟨d, e⟩ => ⟨d, e.mono ht⟩) id)⟩)
/-- Touches of two goroutines do not conflict. -/
theorem NT.apart {g : Nat} {said : Bool} {x y : Touch} (G : Geo K) (hx : NT K g w x) (hy : NT K k w y) (hc : x.conflicts said y) : g = k := by
  obtain ⟨hl, hm, hw, hk⟩ := hc
  have wgx : ∀ {b : Nat}, (RO K w b ∨ Row K w b ∨ b = K.Lb) → b ≠ K.Wg := fun h e => by
    have := G.wg; have := G.wl
    rcases h with (⟨_, h, _⟩ | ⟨h, _⟩) | ⟨h, _⟩ | h <;> first | (exact h e) | omega
  have atom : ∀ {g' k' : Nat} {x y : Touch}, x.kind = .atomic → ((∃ a, x.loc = .cell a ∧ a.block = K.Wg) ∨ ∃ c, c < K.H0 ∧ x.loc = .obj c) → x.loc = y.loc → Tch K k' w y → False := by
    intro g' k' x y _ ho hl ⟨_, a, ha, hy⟩
    have hb : RO K w a.block ∨ Row K w a.block ∨ a.block = K.Lb := hy.imp (·.2) (Or.imp (·.2) (·.2))
    rcases ho with ⟨a', ha', hb'⟩ | ⟨c, -, hc⟩
    · rw [ha', ha] at hl; cases hl; exact wgx hb hb'
    · rw [hc, ha] at hl; cases hl
  have said : ∀ {g' k' : Nat} {x y : Touch}, (∃ a, x.loc = .cell a ∧ a.block = K.Wg) → x.loc = y.loc → Tch K k' w y → False := by
    intro g' k' x y ⟨a', ha', hb'⟩ hl ⟨_, a, ha, hy⟩
    rw [ha', ha] at hl; cases hl; exact wgx (hy.imp (·.2) (Or.imp (·.2) (·.2))) hb'
  rcases hx with ⟨xa, xo⟩ | ⟨x0, xs, xo⟩ | hx <;> rcases hy with ⟨ya, yo⟩ | ⟨y0, ys, yo⟩ | hy
  · rw [xa, ya] at hk; simp at hk
  · rw [xa, ys] at hk; simp at hk
  · exact (atom (g' := g) xa xo hl hy).elim
  · rw [xs, ya] at hk; simp at hk
  · rw [x0, y0]
  · exact (said (g' := g) xo hl hy).elim
  · exact (atom (g' := g) ya yo hl.symm hx).elim
  · exact (said (g' := g) yo hl.symm hx).elim
  · obtain ⟨_, a, ha, hx⟩ := hx
    obtain ⟨_, a', ha', hy⟩ := hy
    rw [ha, ha'] at hl; cases hl
    have h1 := G.lb
    have no : RO K w a.block → ¬ Row K w a.block := by
      rintro (⟨h, _⟩ | ⟨_, cs, e⟩) ⟨h', cs', e'⟩
      · omega
      · rw [e] at e'; have := G.tt; simp at e'; exact this e'.2
    have nl : RO K w a.block → a.block ≠ K.Lb := by
      rintro (⟨_, _, h⟩ | ⟨h, _⟩)
      · exact h
      · omega
    rcases hx with ⟨x1, x2⟩ | ⟨rfl, x2⟩ | ⟨rfl, x2⟩ <;> rcases hy with ⟨y1, y2⟩ | ⟨rfl, y2⟩ | ⟨rfl, y2⟩
    · rw [x1, y1] at hw; simp at hw
    · exact (no x2 y2).elim
    · exact (nl x2 y2).elim
    · exact (no y2 x2).elim
    · rfl
    · exact absurd x2.1 (by omega)
    · exact (nl y2 x2).elim
    · exact absurd y2.1 (by omega)
    · rfl
end

section
variable {K : Cst} {p j k : Nat} {w w' : World} {t u : Trace}
theorem TL.knows0 (h : TL K p j w t) {i : Nat} (hi : i < p) : Knows t 0 i := by
  have hs : i < t.size := Nat.lt_of_lt_of_le hi h.pos
  have hx := Array.getElem?_eq_getElem hs
  have := knows_own hx
  rwa [h.old i _ hi hx] at this
theorem TL.app (G : Geo K) (h : TL K p j w t) (hk : k ≤ j) (hu : ∀ op ∈ u, op.g = k ∧ ∀ x, op.act.touch? = some x → NT K k w' x) (ht : Typ K w w') : TL K p j w' (t ++ u) := by
  refine ⟨by have := h.pos; simp; omega, fun i op hi e => ?_, fun k' h1 h2 i hi => (h.kn k' h1 h2 i hi).app u, fun i op x hi e hx => ?_, fun said => noRace_append (h.nr said) (fun op hop => (hu op hop).1) fun i a ha op hop b hb hc => ?_, fun i op e => ?_⟩
  · rw [getElem?_append_old (Nat.lt_of_lt_of_le hi h.pos)] at e
    exact h.old i op hi e
  · rcases getElem?_append_cases e with ⟨_, e'⟩ | ⟨_, hop⟩
    · exact (h.new i op x hi e' hx).mono ht
    · rw [(hu op hop).1]; exact (hu op hop).2 x hx
  · rcases Nat.lt_or_ge i p with hi | hi
    · rcases Nat.eq_zero_or_pos k with rfl | h1
      · exact h.knows0 hi
      · exact h.kn k h1 hk i hi
    · obtain ⟨y, hy, hya⟩ := touch_of ha
      have e := NT.apart G ((h.new i y a hi hy hya).mono ht) ((hu op hop).2 b hb) hc
      have := knows_own hy
      rwa [e] at this
  · rcases getElem?_append_cases e with ⟨_, e'⟩ | ⟨_, hop⟩
    · exact h.gs i op e'
    · rw [(hu op hop).1]; exact hk
theorem TL.world (h : TL K p j w t) (ht : Typ K w w') : TL K p j w' t :=
  ⟨h.pos, h.old, h.kn, fun i op x a b c => (h.new i op x a b c).mono ht, h.nr, h.gs⟩
theorem TL.fork (h : TL K p j w t) {x y : MemOp} (hx : x.g = 0 ∧ x.act = .go (j + 1)) (hy : y.g = j + 1 ∧ y.act = .start) (h0 : Deaf t 0 = 0) : TL K p (j + 1) w (t ++ #[x, y]) := by
  have hk : Deaf t (j + 1) = 0 := Deaf_absent fun i op hi e => by have := h.gs i op hi; omega
  have hnt : ∀ op ∈ #[x, y], ∀ b, op.act.touch? = some b → False := by
    intro op hop b hb
    simp only [List.mem_toArray, List.mem_cons, List.not_mem_nil, or_false] at hop
    rcases hop with rfl | rfl
    · rw [hx.2] at hb; cases hb
    · rw [hy.2] at hb; cases hb
  refine ⟨by have := h.pos; simp; omega, fun i op hi e => ?_, fun k' h1 h2 i hi => ?_, fun i op b hi e hb => ?_, fun said => ?_, fun i op e => ?_⟩
  · rw [getElem?_append_old (Nat.lt_of_lt_of_le hi h.pos)] at e
    exact h.old i op hi e
  · rcases Nat.lt_or_ge j k' with hlt | hge
    · obtain rfl : k' = j + 1 := by omega
      exact fork_knows hx hy h0 hk (h.knows0 hi)
    · exact (h.kn k' h1 hge i hi).app _
  · rcases getElem?_append_cases e with ⟨_, e'⟩ | ⟨_, hop⟩
    · exact h.new i op b hi e' hb
    · exact (hnt op hop b hb).elim
  · have e : t ++ #[x, y] = (t ++ #[x]) ++ #[y] := by apply Array.ext'; simp
    rw [e]
    refine noRace_append (g := j + 1) (noRace_append (g := 0) (h.nr said) (fun op hop => by simp at hop; rw [hop]; exact hx.1) (fun i a _ op hop b hb _ => (hnt op (by simp at hop ⊢; exact .inl hop) b hb).elim))
      (fun op hop => by simp at hop; rw [hop]; exact hy.1) (fun i a _ op hop b hb _ => (hnt op (by simp at hop ⊢; exact .inr hop) b hb).elim)
  · rcases getElem?_append_cases e with ⟨_, e'⟩ | ⟨_, hop⟩
    · exact Nat.le_succ_of_le (h.gs i op e')
    · simp only [List.mem_toArray, List.mem_cons, List.not_mem_nil, or_false] at hop
      rcases hop with rfl | rfl
      · rw [hx.1]; exact Nat.zero_le _
      · rw [hy.1]; exact Nat.le_refl _
/-- At the first fork. -/
theorem TL.start (h0 : ∀ op ∈ t, op.g = 0) : TL K t.size 0 w t := by
  refine ⟨Nat.le_refl _, fun i op _ e => h0 op (Array.mem_of_getElem? e), fun k h1 h2 => by omega, fun i op x hi e => by have := lt_size_of_getElem? e; omega, fun said => ?_, fun i op e => by rw [h0 op (Array.mem_of_getElem? e)]; exact Nat.le_refl _⟩
  have := noRace_append (t := #[]) (u := t) (g := 0) (noRace_nil said) h0 (fun i a ha => by simp [touchAt, Trace.act?] at ha)
  simpa using this
end
end Go.Proofs.Ytmoajpkgdimdaaa
