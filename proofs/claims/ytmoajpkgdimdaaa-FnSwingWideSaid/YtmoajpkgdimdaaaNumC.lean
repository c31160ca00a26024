/- Numbers of swings, in company. -/
import Derived.Test.YtmoajpkgdimdaaaStpA
import Derived.Test.YtmoajpkgdimdaaaSwingC
import Derived.ArgAppend
set_option linter.unusedSectionVars false
set_option linter.unusedVariables false
namespace Go.Proofs.Ytmoajpkgdimdaaa
open Go.Conc Go.RowKit
open Go.ConcR (Payload)

/-- One value more, with room. -/
theorem run_app1 {P : Program} {t ty e : TypeId} {i : TypeInfo} (w : World) (ht : P.underlying t = some (.slice e)) (hi : P.info? e = some i) (h1 : i.size = 1) {g b n cap : Nat} {v u : Value} (hroom : n + 1 ≤ cap)
    (hb : w.cell? ⟨b, 0, none⟩ = some v) (hv : v.oneCell' = true) (hg : w.cell? ⟨g, n, none⟩ = some u) (hz : w.frozen? ⟨g, n, none⟩ = false) :
    (Builtin.append_ #[t, t] ty #[.slice (some ⟨g, 0, none⟩) n cap, .slice (some ⟨b, 0, none⟩) 1 1]).run P w = .ok (.slice (some ⟨g, 0, none⟩) (n + 1) cap) (w.setCell ⟨g, n, none⟩ v) := by
  have := run_append_room_cells (P := P) w t ty e i ht hi g 0 n cap ⟨b, 0, none⟩ 1 1 [v] (by rw [h1]; rfl) (by intro j x hx; cases j with | zero => simp at hx; subst hx; exact hb | succ j => simp at hx) (by intro x hx; simp at hx; rw [hx]; exact hv) hroom
    (by intro j hj; simp at hj; subst hj; rw [h1]; simp [hg]) (by intro j hj; simp at hj; subst hj; rw [h1]; simpa using hz)
  rw [this, h1]
  simp [World.setCells]
theorem ev_app1 {P : Program} {t ty e : TypeId} {i : TypeInfo} (w : World) (es : Array Event) (ht : P.underlying t = some (.slice e)) (hi : P.info? e = some i) (h1 : i.size = 1) {g b n cap : Nat} {v u : Value} (hroom : n + 1 ≤ cap)
    (hb : w.cell? ⟨b, 0, none⟩ = some v) (hv : v.oneCell' = true) (hg : w.cell? ⟨g, n, none⟩ = some u) (hz : w.frozen? ⟨g, n, none⟩ = false) :
    (Builtin.append_ #[t, t] ty #[.slice (some ⟨g, 0, none⟩) n cap, .slice (some ⟨b, 0, none⟩) 1 1]).events P w es = (es.push ⟨.cell ⟨b, 0, none⟩, false, false⟩).push ⟨.cell ⟨g, n, none⟩, true, false⟩ := by
  have e0 : (⟨b, 0, none⟩ : Addr).add 0 = ⟨b, 0, none⟩ := rfl
  have e1 : (⟨g, 0, none⟩ : Addr).add n = ⟨g, n, none⟩ := by rw [Addr.add_lit, Nat.zero_add]
  have e2 : (⟨g, n, none⟩ : Addr).add 0 = ⟨g, n, none⟩ := rfl
  have r0 : (load ⟨b, 0, none⟩).run P w = .ok v w := by simp [hb]
  have l0 : (load ⟨b, 0, none⟩).events P w es = es.push ⟨.cell ⟨b, 0, none⟩, false, false⟩ := by simp [hb]; rfl
  have s0 := fun es => events_store P w es ⟨g, n, none⟩ v .plain hv
  simp only [hg, hz, Bool.false_eq_true, if_false] at s0
  simp [Builtin.append_, run_underlying ht, sizeOf, typeInfo, hi, h1, Builtin.lenOf, hroom, Builtin.firstCells, loadCells, loadCellsFrom, e0, r0, l0, storeCells, e1, e2, s0]
  rfl

section
variable {K : Cst} {w w₁ w' : World} {es : Array Event}
/-- A box and a row of one's own. -/
structure NX (K : Cst) (w0 : World) (r g : Nat) (sw cur : Array Value) (w : World) : Prop where
  bx : BX K 1 w0 r sw w
  glo : K.H0 ≤ g
  gnew : w0.heap.size ≤ g
  gr : w.heap[g]? = some (.cells cur K.tr)
theorem NX.rely {w0 : World} {r g : Nat} {sw cur : Array Value} (h : NX K w0 r g sw cur w) (r' : Rly K 1 w w₁) : NX K w0 r g sw cur w₁ := ⟨h.bx.rely r', h.glo, h.gnew, r'.row rfl g cur h.glo h.gr⟩
theorem NX.cell {w0 : World} {r g : Nat} {sw cur : Array Value} (h : NX K w0 r g sw cur w) (i : Nat) : w.cell? ⟨g, i, none⟩ = cur[i]? := by simp [World.cell?, h.gr]
theorem NX.thaw {w0 : World} {r g : Nat} {sw cur : Array Value} (h : NX K w0 r g sw cur w) (i : Nat) : w.frozen? ⟨g, i, none⟩ = false := by simp [World.frozen?, h.gr]
theorem NX.row {w0 : World} {r g : Nat} {sw cur : Array Value} (h : NX K w0 r g sw cur w) : Row K w g := ⟨h.glo, cur, h.gr⟩
theorem setCell_heap {b i : Nat} {cs : Array Value} {t : TypeId} (h : w.heap[b]? = some (.cells cs t)) (v : Value) (q : Nat) : (w.setCell ⟨b, i, none⟩ v).heap[q]? = if q = b then some (.cells (cs.setIfInBounds i v) t) else w.heap[q]? := by
  unfold World.setCell
  show (w.heap.modify b _)[q]? = _
  rw [Array.getElem?_modify]
  by_cases e : b = q
  · subst e; simp [h]
  · rw [if_neg e, if_neg (Ne.symm e)]
theorem setCell_size (w : World) (a : Addr) (v : Value) : (w.setCell a v).heap.size = w.heap.size := by simp [World.setCell]
theorem Gua.rowSet {g i : Nat} {cur : Array Value} (G : Geo K) (hg : K.H0 ≤ g) (h : w.heap[g]? = some (.cells cur K.tr)) (v : Value) (hes : ∀ e ∈ es, EvK K 1 (w.setCell ⟨g, i, none⟩ v) e) : Gua K 1 w (w.setCell ⟨g, i, none⟩ v) es := by
  have e := setCell_heap (i := i) h v
  refine ⟨⟨rfl, rfl, rfl⟩, by rw [setCell_size]; exact Nat.le_refl _, fun b hb _ => by rw [e, if_neg (by omega)], fun b cs hb hx => ?_, fun b cs hb hx => ?_, hes⟩
  · rw [e, if_neg]
    · exact hx
    · rintro rfl
      rw [h] at hx
      have := G.tt
      simp at hx
      exact this hx.2.symm
  · rw [e]
    split
    · rename_i e2
      subst e2
      rw [h] at hx
      simp at hx
      exact ⟨_, by rw [hx], fun hh => absurd rfl hh⟩
    · exact ⟨cs, hx, fun _ => rfl⟩
theorem Rly.rowSet {k g i : Nat} {cur : Array Value} (G : Geo K) (hg : K.H0 ≤ g) (h : w.heap[g]? = some (.cells cur K.tr)) (v : Value) (b : Nat) (cs : Array Value) (t : TypeId) (hb : w.heap[b]? = some (.cells cs t)) (hne : b ≠ g) : (w.setCell ⟨g, i, none⟩ v).heap[b]? = some (.cells cs t) := by
  rw [setCell_heap h, if_neg hne]; exact hb
theorem evK_row {a : Addr} {wr : Bool} (h : Row K w a.block) : EvK K 1 w ⟨.cell a, wr, false⟩ := by
  refine ⟨by simp, by simp, by simp, fun x hx => ?_⟩
  have hx' : some (⟨.cell a, wr, .plain⟩ : Touch) = some x := hx
  cases hx'
  exact .inr (.inr ⟨by simp, a, rfl, .inr (.inl ⟨rfl, h⟩)⟩)
theorem Rly.own {w0 : World} {g i : Nat} {cur : Array Value} (G : Geo K) (r : Rly K 1 w0 w) (hn : w0.heap.size ≤ g) (hg : K.H0 ≤ g) (h : w.heap[g]? = some (.cells cur K.tr)) (v : Value) : Rly K 1 w0 (w.setCell ⟨g, i, none⟩ v) := by
  have e := setCell_heap (i := i) h v
  have lt : ∀ {b : Nat} {x : Obj}, w0.heap[b]? = some x → b ≠ g := fun h => by have := (Array.getElem?_eq_some_iff.1 h).1; omega
  refine ⟨by rw [setCell_size]; exact r.size, fun hl => ?_, fun b hb h1 h2 h3 h4 => by rw [e, if_neg (by omega)]; exact r.old b hb h1 h2 h3 h4, fun b cs hb hx => by rw [e, if_neg (lt hx)]; exact r.box b cs hb hx, fun h1 b cs hb hx => by rw [e, if_neg (lt hx)]; exact r.row h1 b cs hb hx⟩
  obtain ⟨st, sm, hw⟩ := r.live hl
  exact ⟨st, sm, hw.of_block (by rw [e, if_neg (by have := G.wg; omega)])⟩
theorem NX.set {w0 : World} {r g : Nat} {sw cur : Array Value} (G : Geo K) (h : NX K w0 r g sw cur w) (i : Nat) (v : Value) : NX K w0 r g sw (cur.setIfInBounds i v) (w.setCell ⟨g, i, none⟩ v) := by
  have e := setCell_heap (i := i) h.gr v
  have hne : r ≠ g := by
    rintro rfl
    have := h.bx.bx
    rw [h.gr] at this
    have := G.tt
    simp_all
  exact ⟨⟨h.bx.rl.own G h.gnew h.glo h.gr v, by rw [setCell_size]; exact h.bx.sz, h.bx.lo, by rw [e, if_neg hne]; exact h.bx.bx⟩, h.glo, h.gnew, by rw [e, if_pos rfl]⟩
/-- A block made beside them. -/
theorem NX.alloc {w0 : World} {r g : Nat} {sw cur : Array Value} (G : Geo K) (h : NX K w0 r g sw cur w) (o : Obj) : NX K w0 r g sw cur (w.alloc o) :=
  h.rely (Rly.alloc h.bx.sz o G.wg)
theorem BX.mkRow {w0 : World} {r : Nat} {sw : Array Value} (G : Geo K) (h : BX K 1 w0 r sw w) (cs : Array Value) : NX K w0 r w.heap.size sw cs (w.alloc (.cells cs K.tr)) :=
  ⟨h.rely (Rly.alloc h.sz _ G.wg), h.sz, h.rl.size, heap_alloc_new w _⟩
/-- .. and a value laid by. -/
structure TX (K : Cst) (w0 : World) (r g b : Nat) (sw cur : Array Value) (v : Value) (w : World) : Prop where
  nx : NX K w0 r g sw cur w
  blo : K.H0 ≤ b
  bne : b ≠ g
  br : w.heap[b]? = some (.cells #[v] K.tr)
theorem TX.rely {w0 : World} {r g b : Nat} {sw cur : Array Value} {v : Value} (h : TX K w0 r g b sw cur v w) (r' : Rly K 1 w w₁) : TX K w0 r g b sw cur v w₁ := ⟨h.nx.rely r', h.blo, h.bne, r'.row rfl b _ h.blo h.br⟩
theorem NX.lay {w0 : World} {r g : Nat} {sw cur : Array Value} (G : Geo K) (h : NX K w0 r g sw cur w) (v : Value) : TX K w0 r g w.heap.size sw cur v (w.alloc (.cells #[v] K.tr)) := ⟨h.alloc G _, h.bx.sz, by have := (Array.getElem?_eq_some_iff.1 h.gr).1; omega, heap_alloc_new w _⟩
theorem TX.rows {w0 : World} {r g b : Nat} {sw cur : Array Value} {v : Value} (h : TX K w0 r g b sw cur v w) (i : Nat) (x : Value) : Row K (w.setCell ⟨g, i, none⟩ x) b ∧ Row K (w.setCell ⟨g, i, none⟩ x) g := by
  have e := setCell_heap (i := i) h.nx.gr x
  exact ⟨⟨h.blo, _, by rw [e, if_neg h.bne]; exact h.br⟩, ⟨h.nx.glo, _, by rw [e, if_pos rfl]⟩⟩
theorem TX.cell {w0 : World} {r g b : Nat} {sw cur : Array Value} {v : Value} (h : TX K w0 r g b sw cur v w) : w.cell? ⟨b, 0, none⟩ = some v := by simp [World.cell?, h.br]
/-- Its numbers so far. -/
def NmAt (t s : Nat) (z : Z2) (m : Nat) (cur : Array Value) : Prop := cur.size = 401 ∧ ∀ i, i < m → cur[i]? = some (zv (nmZ t s z i))
theorem NmAt.set {t s m : Nat} {z : Z2} {cur : Array Value} (h : NmAt t s z m cur) (hm : m < 401) : NmAt t s z (m + 1) (cur.setIfInBounds m (zv (nmZ t s z m))) := by
  refine ⟨by simp [h.1], fun i hi => ?_⟩
  by_cases e : m = i
  · subst e; rw [Array.getElem?_setIfInBounds_self_of_lt (by rw [h.1]; omega)]
  · rw [Array.getElem?_setIfInBounds_ne e]; exact h.2 i (by omega)
end

variable {K : Cst}
def NuI (K : Cst) (w0 : World) (z : Z2) (t s : Nat) (r g : Nat) (a : Act) (w : World) : Prop :=
  ∃ (m : Nat) (cur : Array Value) (v3 v7 v8 v9 v10 v11 v12 v13 v14 v15 v16 v17 v18 v19 v20 v21 v22 : Value), m ≤ 401 ∧ NmAt t s z m cur ∧ NX K w0 r g #[.complex .f32 z.1 z.2, .int .i64 t, .int .i64 s] cur w ∧
    a = { tmps := #[swv z.1 z.2 t s, .int .i64 401, .pointer (some ⟨r, 0, none⟩), v3, .slice none 0 0, .slice (some ⟨g, 0, none⟩) m 401, zv (nmZ t s z m), v7, v8, v9, v10, v11, v12, v13, v14, v15, v16, v17, v18, v19, v20, v21, v22], defers := [] }
def NuM (a : Act) (_ : World) : Nat := match a.tmps.getD 5 undef with | .slice _ n _ => 401 - n | _ => 0
set_option maxRecDepth 100000 in
set_option maxHeartbeats 1000000 in
theorem numbers_c (G : Geo K) (htb : K.tb = 25) (htr : K.tr = 23) : ∃ n, ∀ (t s : Nat) (z : Z2) (w0 w : World), FinZ z → t ≤ 3 → s ≤ 4 → BF K 1 w0 w → w0.heap.size ≤ w.heap.size →
    CallsC Try.prog false (Rly K 1) (Gua K 1) 25 #[swv z.1 z.2 t s, .int .i64 401] n w fun v w' => BF K 1 w0 w' ∧ ∃ g cur, v = .slice (some ⟨g, 0, none⟩) 401 401 ∧ K.H0 ≤ g ∧ w'.heap[g]? = some (.cells cur K.tr) ∧ NmAt t s z 401 cur := by
  have T := terms K 1
  obtain ⟨ns, hstep⟩ := step_c (K := K) (k := 1) htb G.wg
  obtain ⟨ic, hi, hz0, hz1, hz2⟩ := infoZ
  have hmk := fun w => run_make (P := Try.prog) w 57 23 ic (.complex .f32 0 0) Try.underlying57 hi hz0 .i64 .i64 0 401 (by omega) (by omega) (by rw [hz2]; omega) (by omega)
  have hme := fun w es => events_make (P := Try.prog) w 57 23 ic (.complex .f32 0 0) Try.underlying57 hi hz0 .i64 .i64 0 401 (by omega) (by omega) (by rw [hz2]; omega) (by omega) (by rw [hz2]; simp) es
  co_apply Exists.intro
  intro t s z w0 w hz ht hs hF h0s
  have HZ := Lib.hid hz
  clear hz
  co_apply callsC_of_wpC Try.func25 (by rfl) rfl
  simp only [Try.ntmps25, List.size_toArray, List.length_cons, List.length_nil, Nat.reduceAdd, Nat.reduceSub, Array.replicate_succ, Array.replicate_zero, List.push_toArray, List.append_toArray, List.nil_append, List.cons_append]
  co_apply wpC_seq T
  co_reg T
  co_opw BF.rely hF (skip) (rw [listed_nil (by simp [go_sem, *])]; exact Gua.alloc hF.sz _)
  have hX := hF.made G.wg #[.complex .f32 z.1 z.2, .int .i64 t, .int .i64 s]
  rw [htb] at hX
  clear hF
  co_go T BX.rely hX (co_quiet T)
  co_opw BX.rely hX (skip) (rw [listed_nil (by simp [go_sem, *])]; exact Gua.alloc hX.sz _)
  have hN := hX.mkRow G (madeCells #[Value.complex FloatKind.f32 0 0] 401)
  rw [htr] at hN
  clear hX
  co_go T NX.rely hN (co_quiet T)
  co_opw NX.rely hN (have hc : World.cell? _ _ = some (.complex .f32 z.1 z.2) := hN.bx.cell 0) (exact Gua.reads (by co_evs (exact evK_read hN.bx.ro)))
  clear hc
  co_go T NX.rely hN (co_quiet T)
  co_apply wpC_loop T (NuI K w0 z t s _ _) NuM _ 401
  · exact ⟨0, _, _, _, _, _, _, _, _, _, _, _, _, _, _, _, _, _, _, by omega, ⟨by simp [madeCells], fun i hi => by omega⟩, hN, rfl⟩
  · simp [NuM]
  · rintro a w ⟨m, cur, v3, v7, v8, v9, v10, v11, v12, v13, v14, v15, v16, v17, v18, v19, v20, v21, v22, hm, hcur, hN, rfl⟩
    have HC := Lib.hid hcur
    clear hcur
    co_go T NX.rely hN (co_quiet T)
    co_split T (decide ((m : Int) < 401))
    · intro hlt
      have hlt' : m < 401 := by have := of_decide_eq_true hlt; omega
      clear hlt
      co_go T NX.rely hN (co_quiet T)
      co_opw NX.rely hN (skip) (rw [listed_nil (by simp [go_sem, *])]; exact Gua.alloc hN.bx.sz _)
      have hT := hN.lay G (zv (nmZ t s z m))
      rw [htr] at hT
      clear hN
      obtain ⟨u, hu⟩ : ∃ u, cur[m]? = some u := ⟨_, Array.getElem?_eq_getElem (by rw [HC.out.1]; omega)⟩
      have HU := Lib.hid hu
      clear hu
      co_apply opsC_cons_k rfl (by rfl)
      intro _ hR K hK
      replace hT := TX.rely hT hR
      clear hR
      have hap := run_app1 (P := Try.prog) (ty := 57) _ Try.underlying57 hi hz1 (show m + 1 ≤ 401 by omega) hT.cell rfl ((hT.nx.cell m).trans HU.out) (hT.nx.thaw m)
      have hev := fun ty es => ev_app1 (P := Try.prog) (ty := ty) _ es Try.underlying57 hi hz1 (show m + 1 ≤ 401 by omega) hT.cell rfl ((hT.nx.cell m).trans HU.out) (hT.nx.thaw m)
      refine uponK_append (.tmp 18) (.tmp 20) 57 rfl rfl rfl hap (hK _ _ ⟨?_, ?_⟩)
      · refine Gua.rowSet G hT.nx.glo hT.nx.gr _ ?_
        intro e he
        have hm := mem_listed he
        rw [show Sem.events _ (execOp _ _) _ #[] = _ from (events_append_op (.tmp 18) (.tmp 20) 57 rfl rfl rfl _).trans (hev _ _)] at hm
        simp only [Array.mem_push, Array.not_mem_empty, false_or] at hm
        rcases hm with rfl | rfl
        · exact evK_row (hT.rows m _).1
        · exact evK_row (hT.rows m _).2
      clear hK K hap hev
      have hN := hT.nx.set G m (zv (nmZ t s z m))
      clear hT
      walk_nrm
      co_go T NX.rely hN (co_quiet T)
      co_opw NX.rely hN (have c0 : World.cell? _ _ = some (.complex .f32 z.1 z.2) := hN.bx.cell 0; have c1 : World.cell? _ _ = some (.int .i64 t) := hN.bx.cell 1; have c2 : World.cell? _ _ = some (.int .i64 s) := hN.bx.cell 2) (exact Gua.reads (by intro e he; have hm := mem_listed he; simp [go_sem, *] at hm; rcases hm with rfl | rfl | rfl <;> exact evK_read hN.bx.ro))
      clear c0 c1 c2
      co_go T NX.rely hN (co_quiet T)
      co_apply opsC_call T rfl (by rfl) rfl
      · walk_nrm
        exact hstep _ _ t s _ _ _ (nmZ_fin HZ.out m) ht hs ⟨Rly.refl _, hN.bx.sz⟩
      · rintro v w' ⟨rfl, hb⟩
        replace hN := hN.rely hb.rl
        clear hb
        walk_nrm
        co_go T NX.rely hN (co_quiet T)
        refine ⟨⟨m + 1, _, _, _, _, _, _, _, _, _, _, _, _, _, _, _, _, _, _, by omega, HC.out.set hlt', hN, rfl⟩, ?_⟩
        simp [NuM]
        omega
    · intro hlt
      obtain rfl : m = 401 := by have := of_decide_eq_false hlt; omega
      co_go T NX.rely hN (co_quiet T)
      exact ⟨rfl, _, resultsC_tmp (by rfl) _, ⟨hN.bx.rl, hN.bx.sz⟩, _, cur, rfl, hN.glo, hN.gr, HC.out⟩
end Go.Proofs.Ytmoajpkgdimdaaa
