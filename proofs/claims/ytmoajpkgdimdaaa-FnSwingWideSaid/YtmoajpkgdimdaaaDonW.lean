/- (*sync.WaitGroup).Done, as a worker's deferred call: up to its release nothing turns; from there on the library's own walk. -/
import Derived.Test.YtmoajpkgdimdaaaSemA
import Derived.Test.YtmoajpkgdimdaaaStpA
set_option linter.unusedSectionVars false
set_option linter.unusedVariables false
namespace Go.Proofs.Ytmoajpkgdimdaaa
open Go.Conc Go.ConcN Go.ConcN.Gen Go.RowKit Go.Conc.Lib Go.ConcR.Gen
open Go.ConcR (KK wgBlock WgAt stA smA rd wr mk Payload Aside2 DC0)

section
variable {K : Cst} {k : Nat} {val : Value} {Qw : World → Prop} {S : Goroutine → World → Prop} {g g' g₁ g₂ g₃ g₄ : Goroutine}
abbrev NoL : Nat → Loc → Prop := fun _ _ => False
/-- The library's walk stands ready at g. -/
def LibAt (K : Cst) (k : Nat) (val : Value) (Qw : World → Prop) (g : Goroutine) : Prop := ∃ n, ∀ w, Qw w → Goes K.P false (RW K.ty K.Wg K.C 3 0 (k - 1)) (DWs K.Wg NoL NoL K.C 3 k) (AtR0 K.P K.ty K.Wg K.C 3 0 k val) n g w
abbrev LG (K : Cst) (k : Nat) (val : Value) (n : Nat) (g : Goroutine) (w : World) : Prop := Goes K.P false (RW K.ty K.Wg K.C 3 0 (k - 1)) (DWs K.Wg NoL NoL K.C 3 k) (AtR0 K.P K.ty K.Wg K.C 3 0 k val) n g w
theorem LG.follow {n : Nat} {w : World} (h : LG K k val n g w) (hst : stepG K.P false g w = .go g' w #[]) : LG K k val n g' w := by
  rcases Goes.cases h with hstop | ⟨m, rfl, hstep⟩
  · obtain ⟨-, -, g₂, h2, -⟩ := hstop w (RW.refl w)
    rw [hst] at h2
    injection h2 with _ _ h3
    simp at h3
  · obtain ⟨g₂, w₂, es, h2, -, h3⟩ := hstep w (RW.refl w)
    rw [hst] at h2
    injection h2 with a b c
    subst a b c
    exact h3.more
theorem LibAt.step (h : LibAt K k val Qw g) (hst : ∀ w, Qw w → stepG K.P false g w = .go g' w #[]) : LibAt K k val Qw g' := let ⟨n, h⟩ := h; ⟨n, fun w hw => LG.follow (h w hw) (hst w hw)⟩
theorem LibAt.rel (h : LibAt K k val Qw g) (hst : ∀ w, Qw w → stepG K.P false g w = .go g₁ w #[mk (.releaseMerge (stA K.Wg))]) (h1 : ∀ w, stepG K.P false g₁ w = .go g₂ w #[]) (h2 : ∀ w, stepG K.P false g₂ w = .go g₃ w #[]) (h3 : ∀ w, stepG K.P false g₃ w = .go g₄ w #[])
    {g₅ : Goroutine} (h4 : ∀ w, stepG K.P false g₄ w = .go g₅ w #[mk .disable]) (w : World) (hw : Qw w) : AtR0 K.P K.ty K.Wg K.C 3 0 k val g w := by
  obtain ⟨n, h⟩ := h
  rcases Goes.cases (h w hw) with hstop | ⟨m, rfl, hstep⟩
  · exact hstop w (RW.refl w)
  · exfalso
    obtain ⟨g', w₂, es, e2, -, e3⟩ := hstep w (RW.refl w)
    rw [hst w hw] at e2
    injection e2 with a b c
    subst a b c
    have l4 : LG K k val m g₄ w := ((LG.follow e3 (h1 w)).follow (h2 w)).follow (h3 w)
    rcases Goes.cases l4 with hstop4 | ⟨m', hm', hstep4⟩
    · obtain ⟨-, -, g', e, -⟩ := hstop4 w (RW.refl w)
      rw [h4 w] at e
      injection e with _ _ e
      simp [mk] at e
    · obtain ⟨g', w₂, es, e2, ⟨-, hd⟩, -⟩ := hstep4 w (RW.refl w)
      rw [h4 w] at e2
      injection e2 with _ _ c
      have := (hd (mk .disable) (by rw [← c]; simp)).2.1
      exact this rfl
/-- On the way to the release. -/
def Tw (K : Cst) (k : Nat) (val : Value) (Qw : World → Prop) (S : Goroutine → World → Prop) (g : Goroutine) : Prop := LibAt K k val Qw g → ∃ n, ∀ w, Qw w → Goes K.P false (Rly K k) (Gua K k) S n g w
theorem Tw.step (hQ : ∀ w w₁, Qw w → Rly K k w w₁ → Qw w₁) (hs : g.status = .running) (hst : ∀ w, Qw w → stepG K.P false g w = .go g' w #[]) (next : Tw K k val Qw S g') : Tw K k val Qw S g := by
  intro h
  obtain ⟨n, hn⟩ := next (h.step hst)
  refine ⟨n + 1, fun w hw => Goes.step hs fun w₁ h₁ => ?_⟩
  rw [hst w₁ (hQ _ _ hw h₁)]
  exact ⟨Gua.idle _, hn _ (hQ _ _ hw h₁)⟩
theorem Tw.value {b : Frame} {a : Act} {kk : List Item} {cs : List Frame} {ops : Array Oper} {i : Nat} {rest : List Nat} {o : Oper} (hQ : ∀ w w₁, Qw w → Rly K k w w₁ → Qw w₁) (v : Value) (ho : ops[i]? = some o) (hw : Region.wanted o (yielded ops a.tmps) = true) (hk : b.kind ≠ .early)
    (hr : ∀ w, Qw w → (execOp a.eval o).run K.P w = .ok (.value v) w) (he : ∀ w, Qw w → (execOp a.eval o).events K.P w #[] = #[]) (next : Tw K k val Qw S (G (b.at (a.put o.dst v) (.inRegion ops rest :: kk)) cs)) : Tw K k val Qw S (G (b.at a (.inRegion ops (i :: rest) :: kk)) cs) :=
  .step hQ rfl (fun w hq => by rw [stepG_value ho hw hk (hr w hq)]; unfold listed; rw [he w hq, seen_none]) next
theorem stepG_callGo {P : Program} {main : Bool} {b : Frame} {a : Act} {kk : List Item} {cs : List Frame} {ops : Array Oper} {i : Nat} {rest : List Nat} {o : Oper} {f : FuncId} {fn : Func} {c : Code} {args : Array Operand} {ats : Array TypeId} (w : World) (ho : ops[i]? = some o) (hw : Region.wanted o (yielded ops a.tmps) = true) (hk : b.kind ≠ .early)
    (hop : o.op = .call { callee := .value (.func f), args, argTypes := ats }) (hf : P.funcs[f]? = some fn) (hname : (fn.name == "runtime.NumGoroutine") = false) (hb : fn.body = some c) :
    stepG P main (G (b.at a (.inRegion ops (i :: rest) :: kk)) cs) w = .go (G ((base f).at { tmps := args.map a.eval ++ Array.replicate (fn.ntmps - (args.map a.eval).size) undef, defers := [] } [.code c]) (b.at a (.inRegion ops (i :: rest) :: kk) :: cs)) w #[] := by
  have key := goes_call (P := P) (main := main) (K := fun g' w' es => (.go g' w' es : GStep) = .go (G ((base f).at { tmps := args.map a.eval ++ Array.replicate (fn.ntmps - (args.map a.eval).size) undef, defers := [] } [.code c]) (b.at a (.inRegion ops (i :: rest) :: kk) :: cs)) w #[]) (b := b) (a := a) (k := kk) (cs := cs) (w := w) ho hw hk hop hf hname hb rfl
  revert key
  cases stepG P main (G (b.at a (.inRegion ops (i :: rest) :: kk)) cs) w <;> intro h <;> first | exact h | exact h.elim
end
set_option maxRecDepth 100000 in
set_option maxHeartbeats 4000000 in
/-- ████ FROM Done's ENTRY TO ITS RELEASE. ████ -/
theorem done_c {K : Cst} {k : Nat} (hP : K.P = Try.prog) (hty : K.ty = wlink.tWg) {Qw : World → Prop} (hQ : ∀ w w₁, Qw w → Rly K k w w₁ → Qw w₁) (hQ1 : ∀ w, Qw w → WgLive wlink.tWg K.Wg w ∧ Has K.C (k - 1) (K.val (k - 1)) w) (hQ2 : ∀ w, Qw w → k = 3 → w.heap[K.Lb]? = some K.lost)
    {c : Frame} {cs : List Frame} {qt : Nat} (hcm : c.mode = .returning) (hT : QuitsD K.P qt 0 (G c cs)) :
    ∃ n, ∀ w, Qw w → Goes K.P false (Rly K k) (Gua K k) (At0 K k) n (G ((baseD wlink.done).at ⟨#[.pointer (some ⟨K.Wg, 0, none⟩), undef, undef, undef], []⟩ [.code (body_done wlink)]) (c :: cs)) w := by
  have H : WgLib K.P wlink := by rw [hP]; exact wlib
  have lib : LibAt K k (K.val (k - 1)) Qw (G ((baseD wlink.done).at ⟨#[.pointer (some ⟨K.Wg, 0, none⟩), undef, undef, undef], []⟩ [.code (body_done wlink)]) (c :: cs)) :=
    ⟨23, fun w hw => by rw [hP] at hT ⊢; rw [hty]; exact doneN wlib hcm hT w (hQ1 w hw)⟩
  revert lib
  show Tw K k (K.val (k - 1)) Qw (At0 K k) _
  clear hP
  lib_facts
  simp only [body_done, doneFn, Option.getD_some]
  refine Tw.step hQ rfl (fun w hw => stepG_region) ?_
  simp only [List.size_toArray, List.length_cons, List.length_nil, Nat.reduceAdd, Nat.zero_add, List.range, List.range.loop]
  refine Tw.value hQ (.pointer (some ⟨K.Wg, 0, none⟩)) rfl rfl (by k_ne) (fun w hw => by go_simp) (fun w hw => by simp [go_sem, *]) ?_
  walk_nrm
  refine Tw.step hQ rfl (fun w hw => stepG_callGo w rfl rfl (by k_ne) rfl H.f_add (nm_add wlink) rfl) ?_
  walk_nrmf addFn
  refine Tw.step hQ rfl (fun w hw => stepG_seq) ?_
  refine Tw.step hQ rfl (fun w hw => stepG_cond (t := true) rfl) ?_
  simp only [↓reduceIte]
  refine Tw.step hQ rfl (fun w hw => stepG_seq) ?_
  refine Tw.step hQ rfl (fun w hw => stepG_seq) ?_
  refine Tw.step hQ rfl (fun w hw => stepG_region) ?_
  simp only [List.size_toArray, List.length_cons, List.length_nil, Nat.reduceAdd, Nat.zero_add, List.range, List.range.loop]
  refine Tw.value hQ (.int .i64 (-1)) rfl rfl (by k_ne) (fun w hw => by go_simp) (fun w hw => by simp [go_sem, *]) ?_
  walk_nrm
  refine Tw.value hQ (.bool true) rfl rfl (by k_ne) (fun w hw => by go_simp) (fun w hw => by simp [go_sem, *]) ?_
  walk_nrm
  refine Tw.step hQ rfl (fun w hw => stepG_region_end) ?_
  refine Tw.step hQ rfl (fun w hw => stepG_cond (t := true) rfl) ?_
  simp only [↓reduceIte]
  refine Tw.step hQ rfl (fun w hw => stepG_region) ?_
  simp only [List.size_toArray, List.length_cons, List.length_nil, Nat.reduceAdd, Nat.zero_add, List.range, List.range.loop]
  refine Tw.value hQ (.pointer (some ⟨K.Wg, 0, none⟩)) rfl rfl (by k_ne) (fun w hw => by go_simp) (fun w hw => by simp [go_sem, *]) ?_
  walk_nrm
  refine Tw.value hQ (.pointer (some ⟨K.Wg, 0, none⟩)) rfl rfl (by k_ne) (fun w hw => ?_) (fun w hw => ?_) ?_
  · have hcv := run_convert_to_unsafe (P := K.P) H.underlying_tWgP H.underlying_tUP H.room_tWg (WgLive.cell0 (hQ1 w hw).1).choose_spec
    go_simp
  · have hce := fun es => events_convert_to_unsafe (P := K.P) H.underlying_tWgP H.underlying_tUP H.room_tWg (WgLive.cell0 (hQ1 w hw).1).choose_spec es
    simp [go_sem, hce]
  walk_nrm
  intro lib
  refine ⟨0, fun w hw => Goes.stop fun w₁ h₁ => ⟨lib.rel (fun w _ => stepG_markAt .releaseMerge (by simp) rfl rfl (by k_ne) rfl H.f_relMerge (x_relMerge_n wlink) (x_relMerge_b wlink) (x_relMerge_x wlink) (x_relMerge_f wlink) (by simp [Act.eval, stA])) (fun w => stepG_region_end) (fun w => stepG_seq) (fun w => stepG_region)
    (fun w => stepG_mark0 .disable (by simp) rfl rfl (by k_ne) rfl H.f_disable (x_disable_n wlink) (x_disable_b wlink) (x_disable_x wlink) (x_disable_f wlink)) w₁ (hQ _ _ hw h₁), hQ2 _ (hQ _ _ hw h₁)⟩⟩
end Go.Proofs.Ytmoajpkgdimdaaa
