/- Steps of swings, in company: the program's wide step. Workers: moves at the model's own grain; a deferred close; birth; the way out. -/
import Derived.Test.YtmoajpkgdimdaaaStpA
import Derived.Test.YtmoajpkgdimdaaaDonW
import Derived.Test.YtmoajpkgdimdaaaNumC
section -- a part
set_option linter.unusedSectionVars false
set_option linter.unusedVariables false
namespace Go.Proofs.Ytmoajpkgdimdaaa
open Go.Conc Go.RowKit
open Go.ConcR (Payload)

variable {K : Cst} {k : Nat}
/-- The loops' frames. -/
def WiI1 (K : Cst) (k : Nat) (w0 : World) (x0 y0 t s : Nat) (z : Z2) (r : Nat) (a : Act) (w : World) : Prop :=
  ∃ (i : Nat) (v3 v14 v15 v16 v17 v18 v19 v20 v21 v22 v23 v24 v25 v26 v27 v28 v29 v30 : Value) (v7 v8 v9 v10 v11 : Value), i ≤ t ∧ BX K k w0 r #[.complex .f32 x0 y0, .int .i64 t, .int .i64 s] w ∧
    a = { tmps := #[swv x0 y0 t s, wv z, .pointer (some ⟨r, 0, none⟩), v3, .complex .f64 0 0, .float .f64 (itr tuW i z).1, .float .f64 (itr tuW i z).2, v7, v8, v9, v10, v11, .int .i64 t, .int .i64 i, v14, v15, v16, v17, v18, v19, v20, v21, v22, v23, v24, v25, v26, v27, v28, v29, v30], defers := [] }
def WiI2 (K : Cst) (k : Nat) (w0 : World) (x0 y0 t s : Nat) (z : Z2) (r : Nat) (a : Act) (w : World) : Prop :=
  ∃ (i : Nat) (v3 v13 v14 v15 v16 v17 v18 v19 v22 v23 v24 v25 v26 v27 v28 v29 v30 : Value) (v7 v8 v9 v10 v11 v12 : Value), i ≤ s ∧ BX K k w0 r #[.complex .f32 x0 y0, .int .i64 t, .int .i64 s] w ∧
    a = { tmps := #[swv x0 y0 t s, wv z, .pointer (some ⟨r, 0, none⟩), v3, .complex .f64 0 0, .float .f64 (itr haW i (itr tuW t z)).1, .float .f64 (itr haW i (itr tuW t z)).2, v7, v8, v9, v10, v11, v12, v13, v14, v15, v16, v17, v18, v19, .int .i64 s, .int .i64 i, v22, v23, v24, v25, v26, v27, v28, v29, v30], defers := [] }
set_option maxRecDepth 100000 in
set_option maxHeartbeats 1000000 in
theorem wideStep_c (htb : K.tb = 25) (hW : K.Wg < K.H0) : ∃ n, ∀ (x0 y0 t s : Nat) (z : Z2) (w0 w : World), NNW z → t ≤ 3 → s ≤ 4 → BF K k w0 w →
    CallsC Try.prog false (Rly K k) (Gua K k) 17 #[swv x0 y0 t s, wv z] n w fun v w' => v = wv (stW t s z) ∧ BF K k w0 w' := by
  have T := terms K k
  co_apply Exists.intro
  intro x0 y0 t s z w0 w hz ht hs hF
  have HZ := Lib.hid hz
  clear hz
  co_apply callsC_of_wpC Try.func17 (by rfl) rfl
  simp only [Try.ntmps17, List.size_toArray, List.length_cons, List.length_nil, Nat.reduceAdd, Nat.reduceSub, Array.replicate_succ, Array.replicate_zero, List.push_toArray, List.append_toArray, List.nil_append, List.cons_append]
  co_apply wpC_seq T
  co_reg T
  co_opw BF.rely hF (skip) (rw [listed_nil (by simp [go_sem, *])]; exact Gua.alloc hF.sz _)
  have hX := hF.made hW #[.complex .f32 x0 y0, .int .i64 t, .int .i64 s]
  rw [htb] at hX
  clear hF
  co_go T BX.rely hX (co_quiet T)
  co_opw BX.rely hX (have hc : World.cell? _ _ = some (.int .i64 t) := hX.cell 1) (exact Gua.reads (by co_evs (exact evK_read hX.ro)))
  clear hc
  co_go T BX.rely hX (co_quiet T)
  co_apply wpC_loop T (WiI1 K k w0 x0 y0 t s z _) (StM t 13) _ 3
  · exact ⟨0, _, _, _, _, _, _, _, _, _, _, _, _, _, _, _, _, _, _, _, _, _, _, _, by omega, hX, rfl⟩
  · simpa [StM] using ht
  · rintro a w ⟨i, v3, v14, v15, v16, v17, v18, v19, v20, v21, v22, v23, v24, v25, v26, v27, v28, v29, v30, v7, v8, v9, v10, v11, hi, hX, rfl⟩
    have hf := itr_nnw (fun _ => tuW_nn) HZ.out i
    have r1 := fun w => run_sub64 (P := Try.prog) w 43 hf.2
    clear hf
    co_go T BX.rely hX (co_quiet T)
    co_split T (decide ((i : Int) < (t : Int)))
    · intro hlt
      have hlt' : i < t := by have := of_decide_eq_true hlt; omega
      co_go T BX.rely hX (co_quiet T)
      have e : IntKind.i64.wrap ((i : Int) + 1) = ((i + 1 : Nat) : Int) := by rw [IntKind.wrap_i64]; omega
      rw [e]
      refine ⟨⟨i + 1, _, _, _, _, _, _, _, _, _, _, _, _, _, _, _, _, _, _, _, _, _, _, _, by omega, hX, rfl⟩, ?_⟩
      simp [StM]
      omega
    · intro hlt
      obtain rfl : t = i := by have := of_decide_eq_false hlt; omega
      clear r1
      co_go T BX.rely hX (co_quiet T)
      co_opw BX.rely hX (have hc : World.cell? _ _ = some (.int .i64 s) := hX.cell 2) (exact Gua.reads (by co_evs (exact evK_read hX.ro)))
      clear hc
      co_go T BX.rely hX (co_quiet T)
      co_apply wpC_loop T (WiI2 K k w0 x0 y0 t s z _) (StM s 21) _ 4
      · exact ⟨0, _, _, _, _, _, _, _, _, _, _, _, _, _, _, _, _, _, _, _, _, _, _, _, by omega, hX, rfl⟩
      · simpa [StM] using hs
      · rintro a w ⟨q, v3, v13, v14, v15, v16, v17, v18, v19, v22, v23, v24, v25, v26, v27, v28, v29, v30, v7, v8, v9, v10, v11, v12, hq, hX, rfl⟩
        have hf := itr_nnw (fun _ => haW_nn) (itr_nnw (fun _ => tuW_nn) HZ.out t) q
        have r1 := fun w => run_half64 (P := Try.prog) w 43 hf.1
        have r2 := fun w => run_half64 (P := Try.prog) w 43 hf.2
        clear hf
        co_go T BX.rely hX (co_quiet T)
        co_split T (decide ((q : Int) < (s : Int)))
        · intro hlt
          have hlt' : q < s := by have := of_decide_eq_true hlt; omega
          co_go T BX.rely hX (co_quiet T)
          have e : IntKind.i64.wrap ((q : Int) + 1) = ((q + 1 : Nat) : Int) := by rw [IntKind.wrap_i64]; omega
          rw [e]
          refine ⟨⟨q + 1, _, _, _, _, _, _, _, _, _, _, _, _, _, _, _, _, _, _, _, _, _, _, _, by omega, hX, rfl⟩, ?_⟩
          simp [StM]
          omega
        · intro hlt
          obtain rfl : s = q := by have := of_decide_eq_false hlt; omega
          clear r1 r2
          co_go T BX.rely hX (co_quiet T)
          exact ⟨rfl, _, resultsC_tmp (by rfl) _, rfl, hX.rl, hX.sz⟩
end Go.Proofs.Ytmoajpkgdimdaaa
end
section -- a part
set_option linter.unusedSectionVars false
set_option linter.unusedVariables false
namespace Go.Proofs.Ytmoajpkgdimdaaa
open Go.Conc Go.ConcN Go.RowKit Go.Conc.Lib
open Go.ConcR (KK wgBlock WgAt stA smA rd wr mk Payload)

section
variable {P : Program} {main : Bool} {R : World → World → Prop} {D : World → World → Array Event → Prop} {S : Goroutine → World → Prop} {n : Nat} {g g' : Goroutine} {w : World}
/-- A step that turns nothing. -/
theorem mv (T : Terms R D) (hs : g.status = .running) (h : ∀ w₁, R w w₁ → ∃ es, stepG P main g w₁ = .go g' w₁ es ∧ D w₁ w₁ es) (next : Goes P main R D S n g' w) : Goes P main R D S (n + 1) g w :=
  Goes.step hs fun w₁ h₁ => by
    obtain ⟨es, e, d⟩ := h w₁ h₁
    rw [e]
    exact ⟨d, next.rely T.trans h₁⟩
theorem mvS (T : Terms R D) (hs : g.status = .running) (h : ∀ w₁, stepG P main g w₁ = .go g' w₁ #[]) (next : Goes P main R D S n g' w) : Goes P main R D S (n + 1) g w :=
  mv T hs (fun w₁ _ => ⟨#[], h w₁, T.idle w₁⟩) next
theorem mvOp (T : Terms R D) {b : Frame} {a : Act} {k : List Item} {cs : List Frame} {ops : Array Oper} {i : Nat} {rest : List Nat} {o : Oper} (v : Value) (ho : ops[i]? = some o) (hw : Region.wanted o (yielded ops a.tmps) = true) (hk : b.kind ≠ .early)
    (hr : ∀ w₁, R w w₁ → (execOp a.eval o).run P w₁ = .ok (.value v) w₁) (hd : ∀ w₁, R w w₁ → D w₁ w₁ (listed P b.fn a o w₁)) (next : Goes P main R D S n (G (b.at (a.put o.dst v) (.inRegion ops rest :: k)) cs) w) :
    Goes P main R D S (n + 1) (G (b.at a (.inRegion ops (i :: rest) :: k)) cs) w :=
  mv T rfl (fun w₁ h₁ => ⟨_, stepG_value ho hw hk (hr w₁ h₁), hd w₁ h₁⟩) next
/-- One that looks at no memory. -/
theorem mvV (T : Terms R D) {b : Frame} {a : Act} {k : List Item} {cs : List Frame} {ops : Array Oper} {i : Nat} {rest : List Nat} {o : Oper} (v : Value) (ho : ops[i]? = some o) (hw : Region.wanted o (yielded ops a.tmps) = true) (hk : b.kind ≠ .early)
    (hr : ∀ w₁, (execOp a.eval o).run P w₁ = .ok (.value v) w₁) (he : ∀ w₁, (execOp a.eval o).events P w₁ #[] = #[]) (next : Goes P main R D S n (G (b.at (a.put o.dst v) (.inRegion ops rest :: k)) cs) w) :
    Goes P main R D S (n + 1) (G (b.at a (.inRegion ops (i :: rest) :: k)) cs) w :=
  mvOp T v ho hw hk (fun w₁ _ => hr w₁) (fun w₁ _ => by rw [listed_nil (he w₁)]; exact T.idle w₁) next

/-- 'defer close(c)'. -/
def dclose (t : TypeId) (c : Nat) : Deferred := { target := .builtin .close #[t] 0 #[false], args := #[.chan (some c)] }
theorem stepG_deferClose {b : Frame} {a : Act} {k : List Item} {cs : List Frame} {ops : Array Oper} {i : Nat} {rest : List Nat} {o : Oper} {x : Tmp} {t : TypeId} {c : Nat} (ho : ops[i]? = some o) (hw : Region.wanted o (yielded ops a.tmps) = true) (hk : b.kind ≠ .early)
    (hop : o.op = .defer { callee := .builtin .close, args := #[.tmp x], argTypes := #[t] }) (hty : o.type = 0) (hx : a.eval (.tmp x) = .chan (some c)) (w : World) :
    stepG P main (G (b.at a (.inRegion ops (i :: rest) :: k)) cs) w = .go (G (b.at (Act.put ⟨a.tmps, dclose t c :: a.defers⟩ o.dst undef) (.inRegion ops rest :: k)) cs) w #[] := by
  have hr : (execOp a.eval o).run P w = .ok (.defer (dclose t c)) w := by
    unfold execOp
    simp [hop, resolve, hx, hty, dclose]
  have he : (execOp a.eval o).events P w #[] = #[] := by
    unfold execOp
    simp [hop, resolve]
  have hfin : (b.at ⟨a.tmps, dclose t c :: a.defers⟩ (.inRegion ops (i :: rest) :: k)).finish undef = b.at (Act.put ⟨a.tmps, dclose t c :: a.defers⟩ o.dst undef) (.inRegion ops rest :: k) := by rw [Frame.finish_at, ho]; rfl
  have hk' : (b.kind == CallKind.early) = false := by simpa using hk
  rw [stepG_oper ho hw, ← hfin]
  simp [stepG.apply, hr, he, G, Frame.at, hk', GStep.after, seen_none]
/-- It is made. -/
theorem stepG_unwindClose {b : Frame} {a : Act} {cs : List Frame} {todo : List Item} {ds : List Deferred} {t : TypeId} {c s r : Nat} {tm : Bool} (hd : a.defers = dclose t c :: ds) (hq : (P.funcs[b.fn]?).any (·.norace) = false) (w : World) (hc : w.heap[c]? = some (.chan 0 #[] false s r tm)) :
    stepG P main (G { b.at a todo with mode := .returning } cs) w = .go (G { b.at ⟨a.tmps, ds⟩ todo with mode := .returning } cs) (w.setChan c 0 #[] true s r tm) #[⟨.obj c, false, true⟩, ⟨.obj c, true, true⟩] := by
  have hrun := run_close_open (P := P) #[t] 0 hc
  have hev := events_close_open (P := P) (es := #[]) #[t] 0 hc
  have hr : (invoke (dclose t c).target (dclose t c).args).run P w = .ok (.value (.tuple #[])) (w.setChan c 0 #[] true s r tm) := by
    simp only [dclose, invoke, builtin, Sem.run_bind, hrun, Result.andThen_ok, Sem.run_pure]
    rfl
  have hl : seen P b.fn ((invoke (dclose t c).target (dclose t c).args).events P w #[]) = #[⟨.obj c, false, true⟩, ⟨.obj c, true, true⟩] := by
    have : (invoke (dclose t c).target (dclose t c).args).events P w #[] = #[⟨.obj c, false, true⟩, ⟨.obj c, true, true⟩] := by
      simp only [dclose, invoke, builtin, Sem.events_bind, hrun, hev, Result.evThen_ok, Sem.events_pure]
      rfl
    rw [this, seen_eq hq (by simp)]
  simp only [dclose] at hd hr hl ⊢
  simp [G, stepG, unwind, callDeferred, Frame.at, hd, hr, hl, GStep.after]
end

/-- A worker's bottom frame, once its one call has been taken off it. -/
noncomputable def bot : Frame := { (default : Frame) with fn := Try.prog.funcs.size, defers := [], mode := .panicking [goexitEntry] }
/-- Once Done has left: it only leaves. -/
theorem quitsTail {f : Nat} (a : Array Value) {fn : Func} (hf : Try.prog.funcs[f]? = some fn) (hr : fn.results = #[]) : QuitsD Try.prog 2 0 (G { (baseD f).at ⟨a, []⟩ [] with mode := .returning } [bot]) := by
  refine QuitsD.ctl (g' := G bot []) rfl (fun w => ?_) ?_
  · simp [G, stepG, unwind, doReturn, results, Frame.at, baseD, bot, hf, hr, seen, GStep.after, goexitEntry]
  refine QuitsD.ctl (g' := { G bot [] with status := .finished }) rfl (fun w => ?_) ⟨rfl, rfl⟩
  simp [G, stepG, unwind, bot, goexitEntry, Frame.catches]
  rfl
def wcall (f : Nat) (cs : Array Value) : Deferred := { target := .fn (.func f) cs, args := #[] }
/-- A worker's first step. -/
theorem born_step {f : Nat} {cs : Array Value} {fn : Func} {c : Code} (hf : Try.prog.funcs[f]? = some fn) (hn : (fn.name == "runtime.NumGoroutine") = false) (hb : fn.body = some c) (w : World) :
    stepG Try.prog false (born Try.prog (wcall f cs)) w = .go (G ((baseD f).at ⟨cs ++ Array.replicate (fn.ntmps - cs.size) undef, []⟩ [.code c]) [bot]) w #[] := by
  have h1 : ¬ fn.name = "runtime.NumGoroutine" := by simpa using hn
  simp [born, wcall, stepG, unwind, callDeferred, invoke, callFunc, hf, h1, hb, seen, GStep.after, G, Frame.enter, Frame.at, baseD, bot]
end Go.Proofs.Ytmoajpkgdimdaaa
end
