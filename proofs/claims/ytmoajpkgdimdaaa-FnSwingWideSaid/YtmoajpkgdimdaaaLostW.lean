/- The law FnLost, from its entry. -/
import Derived.Test.YtmoajpkgdimdaaaLostM
import Derived.Test.YtmoajpkgdimdaaaTamC
import Derived.Test.YtmoajpkgdimdaaaLostP
import Derived.Test.YtmoajpkgdimdaaaDrawS
set_option linter.unusedSectionVars false
set_option linter.unusedVariables false
set_option linter.unusedSimpArgs false
namespace Go.Proofs.Ytmoajpkgdimdaaa
open Go.Conc Go.ConcN Go.RowKit Go.Conc.Lib Go.ConcR.Gen

theorem inits4 : Try.prog.inits.idxOf? 4 = none := by kernel_rfl
section
variable {w : World} {b3 x y : Nat} {t s : Int}
theorem box0 (h : w.heap[b3]? = some (.cells #[.complex .f32 x y, .int .i64 t, .int .i64 s] 25)) (d : Nat) : (w.at d).cell? ⟨b3, 0, none⟩ = some (.complex .f32 x y) := by
  show w.cell? _ = _
  simp [World.cell?, h]
theorem box1 (h : w.heap[b3]? = some (.cells #[.complex .f32 x y, .int .i64 t, .int .i64 s] 25)) (d : Nat) : (w.at d).cell? ⟨b3, 1, none⟩ = some (.int .i64 t) := by
  show w.cell? _ = _
  simp [World.cell?, h]
theorem box2 (h : w.heap[b3]? = some (.cells #[.complex .f32 x y, .int .i64 t, .int .i64 s] 25)) (d : Nat) : (w.at d).cell? ⟨b3, 2, none⟩ = some (.int .i64 s) := by
  show w.cell? _ = _
  simp [World.cell?, h]
theorem ev_store_complex {P : Program} {a : Addr} {k : FloatKind} {x y : Nat} {m : Mode} {u : Value} (hc : w.cell? a = some u) (hf : w.frozen? a = false) (es : Array Event) : (store a (.complex k x y) m).events P w es = es.push ⟨.cell a, true, m == .atomic⟩ := by
  simp [store, Sem.events, Sem.runT, hc, hf]
theorem belowAt {B : Nat} {w w' : World} (h : Below B w w') (d : Nat) : Below B w (w'.at d) := ⟨h.os, h.tape, h.output, h.size, h.block⟩
theorem ev_eqlB {P : Program} {t : TypeId} (hu : P.underlying t = some .bool) (a b : Bool) (es : Array Event) : (binOp .eql t (.bool a) (.bool b)).events P w es = es := by
  show (do pure (.bool (← Op.equalIn Op.maxDepth t (.bool a) (.bool b))) : Sem Value).events P w es = es
  unfold Op.maxDepth Op.equalIn
  simp [run_underlying hu]
theorem ev_neqB {P : Program} {t : TypeId} (hu : P.underlying t = some .bool) (a b : Bool) (es : Array Event) : (binOp .neq t (.bool a) (.bool b)).events P w es = es := by
  show (do pure (.bool !(← Op.equalIn Op.maxDepth t (.bool a) (.bool b))) : Sem Value).events P w es = es
  unfold Op.maxDepth Op.equalIn
  simp [run_underlying hu]
theorem setAt {m i : Nat} {cs : Array Value} {v : Value} {t : TypeId} (h : w.heap[m]? = some (.cells cs t)) : (w.setCell ⟨m, i, none⟩ v).heap[m]? = some (.cells (cs.setIfInBounds i v) t) := by
  simp [World.setCell, Array.getElem?_modify, h]
theorem setOff {m i b : Nat} {v : Value} (hb : b ≠ m) : (w.setCell ⟨m, i, none⟩ v).heap[b]? = w.heap[b]? := by
  simp [World.setCell, Array.getElem?_modify, Ne.symm hb]
theorem atCell {m i : Nat} {cs : Array Value} {t : TypeId} {v : Value} (h : w.heap[m]? = some (.cells cs t)) (hi : cs[i]? = some v) : w.cell? ⟨m, i, none⟩ = some v := by simp [World.cell?, h, hi]
theorem atFroz {m i : Nat} {cs : Array Value} {t : TypeId} (h : w.heap[m]? = some (.cells cs t)) : w.frozen? ⟨m, i, none⟩ = false := by simp [World.frozen?, h]
end
set_option maxRecDepth 100000 in
set_option maxHeartbeats 8000000 in
theorem fnLost_E {Post : Value → World → Prop} (a0 : Option Addr) (len cap : Nat) (W : World) (hv : HasB W W.heap.size a0 len) (hc : len ≤ cap) (hP : ∀ w', Below W.heap.size W w' → Post (.bool true) w') :
    E Try.prog Post 0 (G (Frame.enter Try.prog 4 #[.slice a0 len cap] .normal) []) W := by
  rw [enter_at (fn := Try.f4) _ Try.func4 rfl]
  simp only [Try.f4, Option.getD_some, List.size_toArray, List.length_cons, List.length_nil, Nat.reduceAdd, Nat.reduceSub, Array.replicate_succ, Array.replicate_zero, List.push_toArray, List.append_toArray, List.nil_append, List.cons_append]
  repeat (refine eS rfl stepG_seq ?_)
  refine eS rfl stepG_region ?_
  simp only [List.size_toArray, List.length_cons, List.length_nil, Nat.reduceAdd, Nat.zero_add, List.range, List.range.loop]
  refine eV (.bool false) rfl rfl (by decide) (by go_simp <;> rfl) (by simp [go_sem, *]) ?_
  walk_nrm
  refine eS rfl stepG_region_end ?_
  repeat (refine eS rfl stepG_seq ?_)
  refine eS rfl stepG_region ?_
  simp only [List.size_toArray, List.length_cons, List.length_nil, Nat.reduceAdd, Nat.zero_add, List.range, List.range.loop]
  refine eV (.slice a0 len cap) rfl rfl (by decide) (by go_simp <;> rfl) (by simp [go_sem, *]) ?_
  walk_nrm
  refine eV (.int .i64 len) rfl rfl (by decide) (by go_simp <;> rfl) (by simp [go_sem, *]) ?_
  walk_nrm
  by_cases hl : len ≤ 1048576
  case neg =>
    refine eV (.bool true) rfl rfl (by decide) (by
      have h : decide ((1048576 : Int) < (len : Int)) = true := decide_eq_true (by omega)
      go_simp <;> first | rfl | omega) (by simp [go_sem, *]) ?_
    walk_nrm
    refine E.leave ?_
    refine gwS de0 rfl (fun _ => stepG_region_end) ?_
    refine gwS de0 rfl (fun _ => stepG_cond (t := true) rfl) ?_
    simp only [if_true]
    repeat (refine gwS de0 rfl (fun _ => stepG_seq) ?_)
    refine gwS de0 rfl (fun _ => stepG_region) ?_
    simp only [List.size_toArray, List.length_cons, List.length_nil, Nat.reduceAdd, Nat.zero_add, List.range, List.range.loop]
    refine gwV de0 (.bool true) rfl rfl (by decide) (fun _ => by go_simp <;> rfl) (fun _ => by simp [go_sem, *]) ?_
    walk_nrm
    refine gwS de0 rfl (fun _ => stepG_region_end) ?_
    refine gwS de0 rfl (fun _ => stepG_ret') ?_
    refine atEnd (fn := Try.f4) (v := .bool true) rfl inits4 rfl Try.func4 (fun w => by simp [results, Try.f4]) (fun w => by simp [results, Try.f4]) (fun d => ?_)
    exact hP _ ⟨rfl, rfl, rfl, Nat.le_refl _, fun _ _ => rfl⟩
  refine eV (.bool false) rfl rfl (by decide) (by
    have h : decide ((1048576 : Int) < (len : Int)) = false := decide_eq_false (by omega)
    go_simp <;> first | rfl | omega) (by simp [go_sem, *]) ?_
  walk_nrm
  refine eS rfl stepG_region_end ?_
  refine eS rfl (stepG_cond (t := false) rfl) ?_
  simp only [Bool.false_eq_true, if_false]
  refine eS rfl stepG_skip ?_
  repeat (refine eS rfl stepG_seq ?_)
  refine eS rfl stepG_region ?_
  simp only [List.size_toArray, List.length_cons, List.length_nil, Nat.reduceAdd, Nat.zero_add, List.range, List.range.loop]
  refine eV (.slice a0 len cap) rfl rfl (by decide) (by go_simp <;> rfl) (by simp [go_sem, *]) ?_
  walk_nrm
  refine eTame (f := 11) (args := #[.slice a0 len cap]) tok rfl rfl (by decide) rfl (by simp [Act.eval]) (by decide) (drawSwingLost_any a0 len cap W.heap.size W W hv (Below.refl _ _) (Nat.le_refl _) hl hc) (fun e w' h => let ⟨⟨_, _, _, _, _, _, h⟩, _⟩ := h; ⟨_, h⟩) ?_
  rintro v w1 ⟨⟨x, y, t, s, hx, hy, hv'⟩, hb1⟩
  obtain rfl : v = swv x y t s := by injection hv'
  clear hv'
  walk_nrm
  refine eV (.pointer (some ⟨w1.heap.size, 0, none⟩)) rfl rfl (by decide) (by go_simp <;> rfl) (by simp [go_sem]) ?_
  walk_nrm
  have z2 : (w1.alloc (.cells #[.complex .f32 0 0, .int .i64 0, .int .i64 0] 25)).heap[w1.heap.size]? = some (.cells #[.complex .f32 0 0, .int .i64 0, .int .i64 0] 25) := heap_alloc_new w1 _
  have o2 : ∀ b, b < w1.heap.size → (w1.alloc (.cells #[.complex .f32 0 0, .int .i64 0, .int .i64 0] 25)).heap[b]? = w1.heap[b]? := fun b hb => Below.heap_alloc _ _ _ hb
  have s2 : (w1.alloc (.cells #[.complex .f32 0 0, .int .i64 0, .int .i64 0] 25)).heap.size = w1.heap.size + 1 := by simp
  have p2 : (w1.alloc (.cells #[.complex .f32 0 0, .int .i64 0, .int .i64 0] 25)).os = w1.os ∧ (w1.alloc (.cells #[.complex .f32 0 0, .int .i64 0, .int .i64 0] 25)).tape = w1.tape ∧ (w1.alloc (.cells #[.complex .f32 0 0, .int .i64 0, .int .i64 0] 25)).output = w1.output := ⟨rfl, rfl, rfl⟩
  generalize w1.alloc (.cells #[.complex .f32 0 0, .int .i64 0, .int .i64 0] 25) = w2 at z2 o2 s2 p2 ⊢
  have hWb := hb1.size
  generalize w1.heap.size = b3 at z2 o2 s2 hWb ⊢
  have c0 := atCell (i := 0) z2 rfl
  have f0 := atFroz (i := 0) z2
  have A1 := setAt (i := 0) (v := .complex .f32 x y) z2
  have c1 := atCell (i := 1) A1 rfl
  have f1 := atFroz (i := 1) A1
  have A2 := setAt (i := 1) (v := .int .i64 t) A1
  have c2 := atCell (i := 2) A2 rfl
  have f2 := atFroz (i := 2) A2
  have A3 := setAt (i := 2) (v := .int .i64 s) A2
  refine eN (w' := ((w2.setCell ⟨b3, 0, none⟩ (.complex .f32 x y)).setCell ⟨b3, 1, none⟩ (.int .i64 t)).setCell ⟨b3, 2, none⟩ (.int .i64 s)) rfl rfl (by decide) (by go_simp) (by
    intro e he
    have e0 := fun es => ev_store_complex (P := Try.prog) (k := .f32) (x := x) (y := y) (m := .plain) c0 f0 es
    simp [go_sem, e0, c0, f0, c1, f1, c2, f2] at he
    rcases he with rfl | rfl | rfl <;> exact nom_cell) ?_
  walk_nrm
  refine eS rfl stepG_region_end ?_
  have B3 : Below W.heap.size W (((w2.setCell ⟨b3, 0, none⟩ (.complex .f32 x y)).setCell ⟨b3, 1, none⟩ (.int .i64 t)).setCell ⟨b3, 2, none⟩ (.int .i64 s)) :=
    ⟨p2.1.trans hb1.os, p2.2.1.trans hb1.tape, p2.2.2.trans hb1.output, by simp [World.setCell]; omega, fun k hk => by
      rw [setOff (by omega), setOff (by omega), setOff (by omega)]
      exact (o2 k (by omega)).trans (hb1.block k hk)⟩
  have S3 : (((w2.setCell ⟨b3, 0, none⟩ (.complex .f32 x y)).setCell ⟨b3, 1, none⟩ (.int .i64 t)).setCell ⟨b3, 2, none⟩ (.int .i64 s)).heap.size = b3 + 1 := by simp [World.setCell]; omega
  have box : (((w2.setCell ⟨b3, 0, none⟩ (.complex .f32 x y)).setCell ⟨b3, 1, none⟩ (.int .i64 t)).setCell ⟨b3, 2, none⟩ (.int .i64 s)).heap[b3]? = some (.cells #[.complex .f32 x y, .int .i64 t, .int .i64 s] 25) := A3
  generalize ((w2.setCell ⟨b3, 0, none⟩ (.complex .f32 x y)).setCell ⟨b3, 1, none⟩ (.int .i64 t)).setCell ⟨b3, 2, none⟩ (.int .i64 s) = w3 at B3 S3 box ⊢
  clear A1 A2 A3 c0 c1 c2 f0 f1 f2 z2 o2 p2 s2 hb1
  repeat (refine eS rfl stepG_seq ?_)
  refine eS rfl stepG_region ?_
  simp only [List.size_toArray, List.length_cons, List.length_nil, Nat.reduceAdd, Nat.zero_add, List.range, List.range.loop]
  refine eV (swv x y t s) rfl rfl (by decide) (by
    have h0 := box0 box 0
    have h1 := box1 box 0
    have h2 := box2 box 0
    have h0 : w3.cell? ⟨b3, 0, none⟩ = some (.complex .f32 x y) := h0
    have h1 : w3.cell? ⟨b3, 1, none⟩ = some (.int .i64 t) := h1
    have h2 : w3.cell? ⟨b3, 2, none⟩ = some (.int .i64 s) := h2
    go_simp <;> rfl) (by
    have h0 : w3.cell? ⟨b3, 0, none⟩ = some (.complex .f32 x y) := box0 box 0
    have h1 : w3.cell? ⟨b3, 1, none⟩ = some (.int .i64 t) := box1 box 0
    have h2 : w3.cell? ⟨b3, 2, none⟩ = some (.int .i64 s) := box2 box 0
    intro e he
    simp [go_sem, h0, h1, h2] at he
    rcases he with rfl | rfl | rfl <;> exact nom_cell) ?_
  walk_nrm
  refine eS rfl (stepG_callE w3 rfl rfl (by decide) rfl Try.func9 (by rfl) rfl) ?_
  have key : ∀ c, (∀ (Sh : Loc → Prop) (w' : World), Below w3.heap.size w3 w' → (∀ l, Sh l → (∃ a, l = .cell a ∧ a.block < w'.heap.size) ∨ ∃ c, l = .obj c ∧ c < w'.heap.size) → (∀ i, ¬ Sh (.cell ⟨b3, i, none⟩)) →
      GoesW Try.prog true (DE Sh) (AtEndS Try.prog Sh Post) (G (c.finish (.tuple #[.int .i64 (losV (x, y) t s), .bool (swOk x y t s)])) []) w') → E Try.prog Post 0 (G (Frame.enter Try.prog 9 #[swv x y t s] .normal) [c]) w3 := fun c tail => by
    refine lost_head x y t s hx hy w3 (fun hok w' hb => ?_) (fun t' s' ht hs hz ht3 hs4 K w' hKP h1 h2 h3 hb => ?_)
    · have h := tail (fun _ => False) w' hb (fun l h => h.elim) (fun i h => h)
      rw [hok, show losV (x, y) t s = 0 by rw [losV, hok]; rfl] at h
      exact E.leave h
    · subst ht hs
      have hok : swOk x y (t' : Int) (s' : Int) = true := by
        simp only [swOk, Bool.and_eq_true]
        exact ⟨⟨⟨(finB_iff hx).2 hz.1, (finB_iff hy).2 hz.2⟩, inB_iff.2 ⟨by omega, by omega⟩⟩, inB_iff.2 ⟨by omega, by omega⟩⟩
      have h := tail (Shn K) w' hb (fun l hl => ?_) (fun i hi => ?_)
      · rw [hok, show losV (x, y) (t' : Int) (s' : Int) = lostAt t' s' (x, y) 401 by rw [lostAt_all, losV, if_pos hok]; rfl] at h
        exact h
      · rcases hl with ⟨a, rfl, ha⟩ | ⟨c, hc, rfl⟩
        · exact .inl ⟨a, rfl, by omega⟩
        · exact .inr ⟨c, rfl, by omega⟩
      · rcases hi with ⟨a, ha, hb'⟩ | ⟨c, _, hc⟩
        · cases ha
          simp only at hb'
          omega
        · cases hc
  simp only [List.map_toArray, List.map_cons, List.map_nil, Act.eval, Array.getD_eq_getD_getElem?, List.getElem?_toArray, List.getElem?_cons_succ, List.getElem?_cons_zero, Option.getD_some]
  refine key _ ?_
  clear key
  intro Sh w' hB hSh hn
  have box := (hB.block _ (by omega)).trans box
  rw [Frame.finish_at]
  walk_nrm
  have k12 := fun w₁ => specSwingLost_any (x, y) t s hx hy w₁
  have k13 := fun w₁ => swingSmall_any (x, y) t s hx hy w₁
  have kf := fun h => lost_facts (t := t) (s := s) hx hy h
  have kq : swOk x y t s = false → losV (x, y) t s = 0 := fun h => by rw [losV, h]; rfl
  have eb1 := fun (w : World) (a b : Bool) (es : Array Event) => ev_eqlB (P := Try.prog) (w := w) Try.underlying4 a b es
  have eb2 := fun (w : World) (a b : Bool) (es : Array Event) => ev_neqB (P := Try.prog) (w := w) Try.underlying4 a b es
  simp only at k12 k13
  generalize losV (x, y) t s = ou at k12 kf kq ⊢
  generalize frV pTiny (x, y) t s = sm at k13 kf ⊢
  generalize swOk x y t s = ok at k12 k13 kf kq ⊢
  refine gwV de0 (.tuple #[.int .i64 ou, .bool ok]) rfl rfl (by decide) (fun _ => by go_simp <;> rfl) (fun _ => by simp [go_sem, *]) ?_
  walk_nrm
  refine gwV de0 (.int .i64 ou) rfl rfl (by decide) (fun _ => by go_simp <;> rfl) (fun _ => by simp [go_sem, *]) ?_
  walk_nrm
  refine gwV de0 (.bool ok) rfl rfl (by decide) (fun _ => by go_simp <;> rfl) (fun _ => by simp [go_sem, *]) ?_
  walk_nrm
  refine gwV de0 (.int .i64 ou) rfl rfl (by decide) (fun _ => by go_simp <;> rfl) (fun _ => by simp [go_sem, *]) ?_
  walk_nrm
  refine gwV de0 (.bool ok) rfl rfl (by decide) (fun _ => by go_simp <;> rfl) (fun _ => by simp [go_sem, *]) ?_
  walk_nrm
  refine gwS de0 rfl (fun _ => stepG_region_end) ?_
  repeat (refine gwS de0 rfl (fun _ => stepG_seq) ?_)
  refine gwS de0 rfl (fun _ => stepG_region) ?_
  simp only [List.size_toArray, List.length_cons, List.length_nil, Nat.reduceAdd, Nat.zero_add, List.range, List.range.loop]
  refine gwO (swv x y t s) rfl rfl (by decide) (fun d => by
    have h0 : (w'.at d).cell? ⟨b3, 0, none⟩ = some (.complex .f32 x y) := box0 box d
    have h1 : (w'.at d).cell? ⟨b3, 1, none⟩ = some (.int .i64 t) := box1 box d
    have h2 : (w'.at d).cell? ⟨b3, 2, none⟩ = some (.int .i64 s) := box2 box d
    go_simp) (fun d e he => by
    have h0 : (w'.at d).cell? ⟨b3, 0, none⟩ = some (.complex .f32 x y) := box0 box d
    have h1 : (w'.at d).cell? ⟨b3, 1, none⟩ = some (.int .i64 t) := box1 box d
    have h2 : (w'.at d).cell? ⟨b3, 2, none⟩ = some (.int .i64 s) := box2 box d
    simp [go_sem, h0, h1, h2] at he
    rcases he with rfl | rfl | rfl <;> exact evS_read (hn _)) ?_
  walk_nrm
  refine gwCall (f := 12) (args := #[swv x y t s]) (Q := fun v => v = .tuple #[.int .i64 ou, .bool ok]) sok rfl rfl (by decide) rfl (by simp [Act.eval]) (by decide) (by intro v hv; simp at hv; subst hv; exact y0_swv) hSh (fun w₁ => (k12 w₁).mono fun e w' h => ⟨_, h.1, rfl⟩) ?_
  rintro v w5 rfl hb5
  walk_nrm
  refine gwV de0 (.tuple #[.int .i64 ou, .bool ok]) rfl rfl (by decide) (fun _ => by go_simp <;> rfl) (fun _ => by simp [go_sem, *]) ?_
  walk_nrm
  refine gwV de0 (.int .i64 ou) rfl rfl (by decide) (fun _ => by go_simp <;> rfl) (fun _ => by simp [go_sem, *]) ?_
  walk_nrm
  refine gwV de0 (.bool ok) rfl rfl (by decide) (fun _ => by go_simp <;> rfl) (fun _ => by simp [go_sem, *]) ?_
  walk_nrm
  refine gwV de0 (.int .i64 ou) rfl rfl (by decide) (fun _ => by go_simp <;> rfl) (fun _ => by simp [go_sem, *]) ?_
  walk_nrm
  refine gwV de0 (.bool ok) rfl rfl (by decide) (fun _ => by go_simp <;> rfl) (fun _ => by simp [go_sem, *]) ?_
  walk_nrm
  refine gwS de0 rfl (fun _ => stepG_region_end) ?_
  have box5 := (hb5.block _ (by have := hB.size; omega)).trans box
  have B5 : Below W.heap.size W w5 := (B3.trans (hB.mono (by omega))).trans (hb5.mono (by have := hB.size; omega))
  have hSh5 : ∀ l, Sh l → (∃ a, l = .cell a ∧ a.block < w5.heap.size) ∨ ∃ c, l = .obj c ∧ c < w5.heap.size := fun l hl => (hSh l hl).imp (fun ⟨a, e, h⟩ => ⟨a, e, Nat.lt_of_lt_of_le h hb5.size⟩) (fun ⟨a, e, h⟩ => ⟨a, e, Nat.lt_of_lt_of_le h hb5.size⟩)
  cases ok
  case false =>
    repeat (refine gwS de0 rfl (fun _ => stepG_seq) ?_)
    refine gwS de0 rfl (fun _ => stepG_region) ?_
    simp only [List.size_toArray, List.length_cons, List.length_nil, Nat.reduceAdd, Nat.zero_add, List.range, List.range.loop]
    refine gwV de0 (.bool false) rfl rfl (by decide) (fun _ => by go_simp <;> rfl) (fun _ => by simp [go_sem, *]) ?_
    walk_nrm
    refine gwV de0 (.bool false) rfl rfl (by decide) (fun _ => by go_simp <;> rfl) (fun _ => by simp [go_sem, *]) ?_
    walk_nrm
    refine gwV de0 (.bool false) rfl rfl (by decide) (fun _ => by go_simp <;> rfl) (fun _ => by simp [go_sem, *]) ?_
    walk_nrm
    refine gwV de0 (.bool false) rfl rfl (by decide) (fun _ => by go_simp <;> rfl) (fun _ => by simp [go_sem, *]) ?_
    walk_nrm
    refine gwV de0 (.int .i64 ou) rfl rfl (by decide) (fun _ => by go_simp <;> rfl) (fun _ => by simp [go_sem, *]) ?_
    walk_nrm
    refine gwV de0 (.int .i64 ou) rfl rfl (by decide) (fun _ => by go_simp <;> rfl) (fun _ => by simp [go_sem, *]) ?_
    walk_nrm
    refine gwV de0 (.bool false) rfl rfl (by decide) (fun _ => by go_simp <;> rfl) (fun _ => by simp [go_sem, *]) ?_
    walk_nrm
    refine gwV de0 (.bool false) rfl rfl (by decide) (fun _ => by go_simp <;> rfl) (fun _ => by simp [go_sem, *]) ?_
    walk_nrm
    refine gwV de0 (.bool false) rfl rfl (by decide) (fun _ => by go_simp <;> rfl) (fun _ => by simp [go_sem, *]) ?_
    walk_nrm
    refine gwV de0 (.bool false) rfl rfl (by decide) (fun _ => by go_simp <;> rfl) (fun _ => by simp [go_sem, *]) ?_
    walk_nrm
    refine gwV de0 (.bool true) rfl rfl (by decide) (fun _ => by go_simp <;> rfl) (fun _ => by simp [go_sem, *]) ?_
    walk_nrm
    refine gwV de0 (.bool true) rfl rfl (by decide) (fun _ => by go_simp <;> rfl) (fun _ => by simp [go_sem, *]) ?_
    walk_nrm
    refine gwS de0 rfl (fun _ => stepG_region_end) ?_
    refine gwS de0 rfl (fun _ => stepG_cond (t := true) rfl) ?_
    simp only [if_true]
    repeat (refine gwS de0 rfl (fun _ => stepG_seq) ?_)
    refine gwS de0 rfl (fun _ => stepG_region) ?_
    simp only [List.size_toArray, List.length_cons, List.length_nil, Nat.reduceAdd, Nat.zero_add, List.range, List.range.loop]
    refine gwV de0 (.bool false) rfl rfl (by decide) (fun _ => by go_simp <;> rfl) (fun _ => by simp [go_sem, *]) ?_
    walk_nrm
    refine gwV de0 (.bool false) rfl rfl (by decide) (fun _ => by go_simp <;> rfl) (fun _ => by simp [go_sem, *]) ?_
    walk_nrm
    refine gwV de0 (.bool true) rfl rfl (by decide) (fun _ => by go_simp <;> rfl) (fun _ => by simp [go_sem, *]) ?_
    walk_nrm
    refine gwV de0 (.bool true) rfl rfl (by decide) (fun _ => by go_simp <;> rfl) (fun _ => by simp [go_sem, *]) ?_
    walk_nrm
    refine gwV de0 (.int .i64 ou) rfl rfl (by decide) (fun _ => by go_simp <;> rfl) (fun _ => by simp [go_sem, *]) ?_
    walk_nrm
    refine gwV de0 (.int .i64 ou) rfl rfl (by decide) (fun _ => by go_simp <;> rfl) (fun _ => by simp [go_sem, *]) ?_
    walk_nrm
    refine gwV de0 (.bool true) rfl rfl (by decide) (fun _ => by go_simp <;> rfl) (fun _ => by simp [go_sem, *]) ?_
    walk_nrm
    refine gwV de0 (.bool true) rfl rfl (by decide) (fun _ => by go_simp <;> rfl) (fun _ => by simp [go_sem, *]) ?_
    walk_nrm
    refine gwV de0 (.bool true) rfl rfl (by decide) (fun _ => by go_simp <;> rfl) (fun _ => by simp [go_sem, *]) ?_
    walk_nrm
    refine gwS de0 rfl (fun _ => stepG_region_end) ?_
    refine gwS de0 rfl (fun _ => stepG_ret') ?_
    refine atEnd (fn := Try.f4) (v := .bool true) rfl inits4 rfl Try.func4 (fun w => by simp [results, Try.f4]) (fun w => by simp [results, Try.f4]) (fun d => ?_)
    exact hP _ (belowAt B5 d)
  case true =>
    repeat (refine gwS de0 rfl (fun _ => stepG_seq) ?_)
    refine gwS de0 rfl (fun _ => stepG_region) ?_
    simp only [List.size_toArray, List.length_cons, List.length_nil, Nat.reduceAdd, Nat.zero_add, List.range, List.range.loop]
    refine gwV de0 (.bool true) rfl rfl (by decide) (fun _ => by go_simp <;> rfl) (fun _ => by simp [go_sem, *]) ?_
    walk_nrm
    refine gwV de0 (.bool true) rfl rfl (by decide) (fun _ => by go_simp <;> rfl) (fun _ => by simp [go_sem, *]) ?_
    walk_nrm
    refine gwV de0 (.bool false) rfl rfl (by decide) (fun _ => by go_simp <;> rfl) (fun _ => by simp [go_sem, *]) ?_
    walk_nrm
    refine gwV de0 (.bool false) rfl rfl (by decide) (fun _ => by go_simp <;> rfl) (fun _ => by simp [go_sem, *]) ?_
    walk_nrm
    refine gwV de0 (.int .i64 ou) rfl rfl (by decide) (fun _ => by go_simp <;> rfl) (fun _ => by simp [go_sem, *]) ?_
    walk_nrm
    refine gwV de0 (.int .i64 ou) rfl rfl (by decide) (fun _ => by go_simp <;> rfl) (fun _ => by simp [go_sem, *]) ?_
    walk_nrm
    refine gwV de0 (.bool false) rfl rfl (by decide) (fun _ => by go_simp <;> rfl) (fun _ => by simp [go_sem, *]) ?_
    walk_nrm
    refine gwV de0 (.bool false) rfl rfl (by decide) (fun _ => by go_simp <;> rfl) (fun _ => by simp [go_sem, *]) ?_
    walk_nrm
    refine gwV de0 (.bool false) rfl rfl (by decide) (fun _ => by go_simp <;> rfl) (fun _ => by simp [go_sem, *]) ?_
    walk_nrm
    refine gwV de0 (.bool true) rfl rfl (by decide) (fun _ => by go_simp <;> rfl) (fun _ => by simp [go_sem, *]) ?_
    walk_nrm
    refine gwV de0 (.bool false) rfl rfl (by decide) (fun _ => by go_simp <;> rfl) (fun _ => by simp [go_sem, *]) ?_
    walk_nrm
    refine gwV de0 (.bool false) rfl rfl (by decide) (fun _ => by go_simp <;> rfl) (fun _ => by simp [go_sem, *]) ?_
    walk_nrm
    refine gwS de0 rfl (fun _ => stepG_region_end) ?_
    refine gwS de0 rfl (fun _ => stepG_cond (t := false) rfl) ?_
    simp only [Bool.false_eq_true, if_false]
    refine gwS de0 rfl (fun _ => stepG_skip) ?_
    repeat (refine gwS de0 rfl (fun _ => stepG_seq) ?_)
    refine gwS de0 rfl (fun _ => stepG_region) ?_
    simp only [List.size_toArray, List.length_cons, List.length_nil, Nat.reduceAdd, Nat.zero_add, List.range, List.range.loop]
    refine gwO (swv x y t s) rfl rfl (by decide) (fun d => by
      have h0 : (w5.at d).cell? ⟨b3, 0, none⟩ = some (.complex .f32 x y) := box0 box5 d
      have h1 : (w5.at d).cell? ⟨b3, 1, none⟩ = some (.int .i64 t) := box1 box5 d
      have h2 : (w5.at d).cell? ⟨b3, 2, none⟩ = some (.int .i64 s) := box2 box5 d
      go_simp) (fun d e he => by
      have h0 : (w5.at d).cell? ⟨b3, 0, none⟩ = some (.complex .f32 x y) := box0 box5 d
      have h1 : (w5.at d).cell? ⟨b3, 1, none⟩ = some (.int .i64 t) := box1 box5 d
      have h2 : (w5.at d).cell? ⟨b3, 2, none⟩ = some (.int .i64 s) := box2 box5 d
      simp [go_sem, h0, h1, h2] at he
      rcases he with rfl | rfl | rfl <;> exact evS_read (hn _)) ?_
    walk_nrm
    refine gwCall (f := 13) (args := #[swv x y t s]) (Q := fun v => v = .tuple #[.int .i64 sm, .bool true]) sok rfl rfl (by decide) rfl (by simp [Act.eval]) (by decide) (by intro v hv; simp at hv; subst hv; exact y0_swv) hSh5 (fun w₁ => (k13 w₁).mono fun e w' h => ⟨_, h.1, rfl⟩) ?_
    rintro v w6 rfl hb6
    walk_nrm
    refine gwV de0 (.tuple #[.int .i64 sm, .bool true]) rfl rfl (by decide) (fun _ => by go_simp <;> rfl) (fun _ => by simp [go_sem, *]) ?_
    walk_nrm
    refine gwV de0 (.int .i64 sm) rfl rfl (by decide) (fun _ => by go_simp <;> rfl) (fun _ => by simp [go_sem, *]) ?_
    walk_nrm
    refine gwV de0 (.bool true) rfl rfl (by decide) (fun _ => by go_simp <;> rfl) (fun _ => by simp [go_sem, *]) ?_
    walk_nrm
    refine gwV de0 (.int .i64 sm) rfl rfl (by decide) (fun _ => by go_simp <;> rfl) (fun _ => by simp [go_sem, *]) ?_
    walk_nrm
    refine gwV de0 (.bool true) rfl rfl (by decide) (fun _ => by go_simp <;> rfl) (fun _ => by simp [go_sem, *]) ?_
    walk_nrm
    refine gwS de0 rfl (fun _ => stepG_region_end) ?_
    have B6 : Below W.heap.size W w6 := B5.trans (hb6.mono (by have := hB.size; have := hb5.size; omega))
    repeat (refine gwS de0 rfl (fun _ => stepG_seq) ?_)
    refine gwS de0 rfl (fun _ => stepG_region) ?_
    simp only [List.size_toArray, List.length_cons, List.length_nil, Nat.reduceAdd, Nat.zero_add, List.range, List.range.loop]
    refine gwV de0 (.bool true) rfl rfl (by decide) (fun _ => by go_simp <;> rfl) (fun _ => by simp [go_sem, *]) ?_
    walk_nrm
    refine gwV de0 (.bool true) rfl rfl (by decide) (fun _ => by go_simp <;> rfl) (fun _ => by simp [go_sem, *]) ?_
    walk_nrm
    refine gwV de0 (.int .i64 ou) rfl rfl (by decide) (fun _ => by go_simp <;> rfl) (fun _ => by simp [go_sem, *]) ?_
    walk_nrm
    rcases kf rfl with hneg | ⟨h0, h400, hs0, hs1⟩
    case inl =>
      refine gwV de0 (.bool true) rfl rfl (by decide) (fun _ => by have h : decide (ou < 0) = true := decide_eq_true hneg; go_simp <;> rfl) (fun _ => by simp [go_sem, *]) ?_
      walk_nrm
      refine gwV de0 (.bool true) rfl rfl (by decide) (fun _ => by go_simp <;> rfl) (fun _ => by simp [go_sem, *]) ?_
      walk_nrm
      refine gwS de0 rfl (fun _ => stepG_unwanted rfl rfl) ?_
      walk_nrm
      refine gwS de0 rfl (fun _ => stepG_unwanted rfl rfl) ?_
      walk_nrm
      refine gwS de0 rfl (fun _ => stepG_unwanted rfl rfl) ?_
      walk_nrm
      refine gwS de0 rfl (fun _ => stepG_unwanted rfl rfl) ?_
      walk_nrm
      refine gwS de0 rfl (fun _ => stepG_unwanted rfl rfl) ?_
      walk_nrm
      refine gwS de0 rfl (fun _ => stepG_unwanted rfl rfl) ?_
      walk_nrm
      refine gwS de0 rfl (fun _ => stepG_unwanted rfl rfl) ?_
      walk_nrm
      refine gwS de0 rfl (fun _ => stepG_unwanted rfl rfl) ?_
      walk_nrm
      refine gwV de0 (.bool true) rfl rfl (by decide) (fun _ => by go_simp <;> rfl) (fun _ => by simp [go_sem, *]) ?_
      walk_nrm
      refine gwV de0 (.bool true) rfl rfl (by decide) (fun _ => by go_simp <;> rfl) (fun _ => by simp [go_sem, *]) ?_
      walk_nrm
      refine gwV de0 (.bool true) rfl rfl (by decide) (fun _ => by go_simp <;> rfl) (fun _ => by simp [go_sem, *]) ?_
      walk_nrm
      refine gwS de0 rfl (fun _ => stepG_region_end) ?_
      refine gwS de0 rfl (fun _ => stepG_ret') ?_
      refine atEnd (fn := Try.f4) (v := .bool true) rfl inits4 rfl Try.func4 (fun w => by simp [results, Try.f4]) (fun w => by simp [results, Try.f4]) (fun d => ?_)
      exact hP _ (belowAt B6 d)
    case inr =>
      refine gwV de0 (.bool false) rfl rfl (by decide) (fun _ => by have h : decide (ou < 0) = false := decide_eq_false (by omega); go_simp <;> rfl) (fun _ => by simp [go_sem, *]) ?_
      walk_nrm
      refine gwV de0 (.bool false) rfl rfl (by decide) (fun _ => by go_simp <;> rfl) (fun _ => by simp [go_sem, *]) ?_
      walk_nrm
      refine gwV de0 (.int .i64 sm) rfl rfl (by decide) (fun _ => by go_simp <;> rfl) (fun _ => by simp [go_sem, *]) ?_
      walk_nrm
      refine gwV de0 (.bool true) rfl rfl (by decide) (fun _ => by have h : decide (0 ≤ sm) = true := decide_eq_true hs0; go_simp <;> rfl) (fun _ => by simp [go_sem, *]) ?_
      walk_nrm
      refine gwV de0 (.bool true) rfl rfl (by decide) (fun _ => by go_simp <;> rfl) (fun _ => by simp [go_sem, *]) ?_
      walk_nrm
      refine gwV de0 (.int .i64 sm) rfl rfl (by decide) (fun _ => by go_simp <;> rfl) (fun _ => by simp [go_sem, *]) ?_
      walk_nrm
      refine gwV de0 (.int .i64 ou) rfl rfl (by decide) (fun _ => by go_simp <;> rfl) (fun _ => by simp [go_sem, *]) ?_
      walk_nrm
      refine gwV de0 (.int .i64 (ou + 1)) rfl rfl (by decide) (fun _ => by
        have h : IntKind.i64.wrap (ou + 1) = ou + 1 := by rw [IntKind.wrap_i64]; omega
        go_simp <;> rfl) (fun _ => by simp [go_sem, *]) ?_
      walk_nrm
      refine gwV de0 (.bool true) rfl rfl (by decide) (fun _ => by have h : decide (sm ≤ ou + 1) = true := decide_eq_true hs1; go_simp <;> rfl) (fun _ => by simp [go_sem, *]) ?_
      walk_nrm
      refine gwV de0 (.bool true) rfl rfl (by decide) (fun _ => by go_simp <;> rfl) (fun _ => by simp [go_sem, *]) ?_
      walk_nrm
      refine gwV de0 (.bool true) rfl rfl (by decide) (fun _ => by go_simp <;> rfl) (fun _ => by simp [go_sem, *]) ?_
      walk_nrm
      refine gwV de0 (.bool true) rfl rfl (by decide) (fun _ => by go_simp <;> rfl) (fun _ => by simp [go_sem, *]) ?_
      walk_nrm
      refine gwV de0 (.bool true) rfl rfl (by decide) (fun _ => by go_simp <;> rfl) (fun _ => by simp [go_sem, *]) ?_
      walk_nrm
      refine gwS de0 rfl (fun _ => stepG_region_end) ?_
      refine gwS de0 rfl (fun _ => stepG_ret') ?_
      refine atEnd (fn := Try.f4) (v := .bool true) rfl inits4 rfl Try.func4 (fun w => by simp [results, Try.f4]) (fun w => by simp [results, Try.f4]) (fun d => ?_)
      exact hP _ (belowAt B6 d)
end Go.Proofs.Ytmoajpkgdimdaaa
