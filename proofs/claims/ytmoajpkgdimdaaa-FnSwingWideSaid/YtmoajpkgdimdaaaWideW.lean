/- The law FnSwingWide, from its entry. -/
import Derived.Test.YtmoajpkgdimdaaaLostW
import Derived.Test.YtmoajpkgdimdaaaDrawSN
set_option linter.unusedSectionVars false
set_option linter.unusedVariables false
set_option linter.unusedSimpArgs false
namespace Go.Proofs.Ytmoajpkgdimdaaa
open Go.Conc Go.ConcN Go.RowKit Go.Conc.Lib Go.ConcR.Gen

theorem inits3 : Try.prog.inits.idxOf? 3 = none := by kernel_rfl
theorem ev_complexEql {P : Program} {w : World} {es : Array Event} (t : TypeId) (k : FloatKind) (a b c d : Nat) : (binOp .eql t (.complex k a b) (.complex k c d)).events P w es = es := by
  unfold binOp Op.complexOp; simp [Op.Complex.cmp, Op.floatCmp, asBool]
theorem wide_facts {x y : Nat} {t s k : Int} (hx : x < 4294967296) (hy : y < 4294967296) (h : saOk (x, y) t s k = true) :
    (0 ≤ losV (x, y) t s ∧ losV (x, y) t s ≤ k) ∨ ((losV (x, y) t s < 0 ∨ (0 ≤ losV (x, y) t s ∧ k < losV (x, y) t s)) ∧
      FloatKind.f64.format.order (to64 (saZ (x, y) t s k).1) (swW (x, y) t s k).1 = some .eq ∧ FloatKind.f64.format.order (to64 (saZ (x, y) t s k).2) (swW (x, y) t s k).2 = some .eq) := by
  have hv : swOk x y t s = true ∧ inB k 0 400 = true := by unfold saOk at h; simpa only [Bool.and_eq_true] using h
  obtain ⟨hz, t', s', rfl, rfl, ht, hs⟩ := swOk_get (z := (x, y)) hx hy hv.1
  have hk := inB_iff.1 hv.2
  obtain ⟨k', rfl⟩ := Int.eq_ofNat_of_zero_le hk.1
  have e1 : losV (x, y) (t' : Int) (s' : Int) = fsF (difB t' s' (x, y)) 401 0 := by rw [losV, if_pos hv.1]; rfl
  have e2 : saZ (x, y) (t' : Int) (s' : Int) (k' : Int) = nmZ t' s' (x, y) k' := by rw [saZ, if_pos h]; rfl
  have e3 : swW (x, y) (t' : Int) (s' : Int) (k' : Int) = nmW t' s' (toW (x, y)) k' := by rw [swW, if_pos h]; rfl
  rw [e1, e2, e3]
  have same : difB t' s' (x, y) k' = false → FloatKind.f64.format.order (to64 (nmZ t' s' (x, y) k').1) (nmW t' s' (toW (x, y)) k').1 = some .eq ∧ FloatKind.f64.format.order (to64 (nmZ t' s' (x, y) k').2) (nmW t' s' (toW (x, y)) k').2 = some .eq := fun hd => by
    unfold difB at hd
    simp only [Bool.not_eq_false', Bool.and_eq_true, beq_iff_eq] at hd
    exact hd
  rcases fsF_cases (difB t' s' (x, y)) 401 0 with ⟨h1, h2⟩ | ⟨d, -, hd, h1, hd1, hd2⟩
  · rw [h1]
    exact .inr ⟨.inl (by decide), same (h2 k' (by omega) (by omega))⟩
  · rw [h1]
    by_cases hle : d ≤ k'
    · exact .inl ⟨by omega, by omega⟩
    · exact .inr ⟨.inr ⟨by omega, by omega⟩, same (hd2 k' (by omega) (by omega))⟩
set_option maxRecDepth 100000 in
set_option maxHeartbeats 8000000 in
theorem fnSwingWide_E {Post : Value → World → Prop} (a0 : Option Addr) (len cap : Nat) (W : World) (hv : HasB W W.heap.size a0 len) (hc : len ≤ cap) (hP : ∀ w', Below W.heap.size W w' → Post (.bool true) w') :
    E Try.prog Post 0 (G (Frame.enter Try.prog 3 #[.slice a0 len cap] .normal) []) W := by
  rw [enter_at (fn := Try.f3) _ Try.func3 rfl]
  simp only [Try.f3, Option.getD_some, List.size_toArray, List.length_cons, List.length_nil, Nat.reduceAdd, Nat.reduceSub, Array.replicate_succ, Array.replicate_zero, List.push_toArray, List.append_toArray, List.nil_append, List.cons_append]
  repeat (refine eS rfl stepG_seq ?_)
  refine eS rfl stepG_region ?_
  simp only [List.size_toArray, List.length_cons, List.length_nil, Nat.reduceAdd, Nat.zero_add, List.range, List.range.loop]
  refine eV (.bool false) rfl rfl (by decide) (by go_simp <;> rfl) (by simp [go_sem, *]) ?_
  walk_nrm
  refine eS rfl stepG_region_end ?_
  repeat (refine eS rfl stepG_seq ?_)
  refine eS rfl stepG_region ?_
  simp only [List.size_toArray, List.length_cons, List.length_nil, Nat.reduceAdd, Nat.zero_add, List.range, List.range.loop]
  refine eV (.slice a0 len cap) rfl rfl (by decide) (by go_simp <;> rfl) (by simp [go_sem, *]) ?_
  walk_nrm
  refine eV (.int .i64 len) rfl rfl (by decide) (by go_simp <;> rfl) (by simp [go_sem, *]) ?_
  walk_nrm
  by_cases hl : len ≤ 1048576
  case neg =>
    refine eV (.bool true) rfl rfl (by decide) (by
      have h : decide ((1048576 : Int) < (len : Int)) = true := decide_eq_true (by omega)
      go_simp <;> first | rfl | omega) (by simp [go_sem, *]) ?_
    walk_nrm
    refine E.leave ?_
    refine gwS de0 rfl (fun _ => stepG_region_end) ?_
    refine gwS de0 rfl (fun _ => stepG_cond (t := true) rfl) ?_
    simp only [if_true]
    repeat (refine gwS de0 rfl (fun _ => stepG_seq) ?_)
    refine gwS de0 rfl (fun _ => stepG_region) ?_
    simp only [List.size_toArray, List.length_cons, List.length_nil, Nat.reduceAdd, Nat.zero_add, List.range, List.range.loop]
    refine gwV de0 (.bool true) rfl rfl (by decide) (fun _ => by go_simp <;> rfl) (fun _ => by simp [go_sem, *]) ?_
    walk_nrm
    refine gwS de0 rfl (fun _ => stepG_region_end) ?_
    refine gwS de0 rfl (fun _ => stepG_ret') ?_
    refine atEnd (fn := Try.f3) (v := .bool true) rfl inits3 rfl Try.func3 (fun w => by simp [results, Try.f3]) (fun w => by simp [results, Try.f3]) (fun d => ?_)
    exact hP _ ⟨rfl, rfl, rfl, Nat.le_refl _, fun _ _ => rfl⟩
  refine eV (.bool false) rfl rfl (by decide) (by
    have h : decide ((1048576 : Int) < (len : Int)) = false := decide_eq_false (by omega)
    go_simp <;> first | rfl | omega) (by simp [go_sem, *]) ?_
  walk_nrm
  refine eS rfl stepG_region_end ?_
  refine eS rfl (stepG_cond (t := false) rfl) ?_
  simp only [Bool.false_eq_true, if_false]
  refine eS rfl stepG_skip ?_
  repeat (refine eS rfl stepG_seq ?_)
  refine eS rfl stepG_region ?_
  simp only [List.size_toArray, List.length_cons, List.length_nil, Nat.reduceAdd, Nat.zero_add, List.range, List.range.loop]
  refine eV (.slice a0 len cap) rfl rfl (by decide) (by go_simp <;> rfl) (by simp [go_sem, *]) ?_
  walk_nrm
  refine eTame (f := 5) (args := #[.slice a0 len cap]) tok rfl rfl (by decide) rfl (by simp [Act.eval]) (by decide) (drawSwingWide_any a0 len cap W.heap.size W W hv (Below.refl _ _) (Nat.le_refl _) hl hc) (fun e w' h => let ⟨⟨_, _, _, _, _, _, _, _, _, h⟩, _⟩ := h; ⟨_, h⟩) ?_
  rintro v w1 ⟨⟨x, y, t, s, kk, hx, hy, hk0, hk1, hv'⟩, hb1⟩
  obtain rfl : v = .tuple #[swv x y t s, .int .i64 kk] := by injection hv'
  clear hv'
  walk_nrm
  refine eV (.tuple #[swv x y t s, .int .i64 kk]) rfl rfl (by decide) (by go_simp <;> rfl) (by simp [go_sem, *]) ?_
  walk_nrm
  refine eV (swv x y t s) rfl rfl (by decide) (by go_simp <;> rfl) (by simp [go_sem, *]) ?_
  walk_nrm
  refine eV (.int .i64 kk) rfl rfl (by decide) (by go_simp <;> rfl) (by simp [go_sem, *]) ?_
  walk_nrm
  refine eV (.pointer (some ⟨w1.heap.size, 0, none⟩)) rfl rfl (by decide) (by go_simp <;> rfl) (by simp [go_sem]) ?_
  walk_nrm
  have z2 : (w1.alloc (.cells #[.complex .f32 0 0, .int .i64 0, .int .i64 0] 25)).heap[w1.heap.size]? = some (.cells #[.complex .f32 0 0, .int .i64 0, .int .i64 0] 25) := heap_alloc_new w1 _
  have o2 : ∀ b, b < w1.heap.size → (w1.alloc (.cells #[.complex .f32 0 0, .int .i64 0, .int .i64 0] 25)).heap[b]? = w1.heap[b]? := fun b hb => Below.heap_alloc _ _ _ hb
  have s2 : (w1.alloc (.cells #[.complex .f32 0 0, .int .i64 0, .int .i64 0] 25)).heap.size = w1.heap.size + 1 := by simp
  have p2 : (w1.alloc (.cells #[.complex .f32 0 0, .int .i64 0, .int .i64 0] 25)).os = w1.os ∧ (w1.alloc (.cells #[.complex .f32 0 0, .int .i64 0, .int .i64 0] 25)).tape = w1.tape ∧ (w1.alloc (.cells #[.complex .f32 0 0, .int .i64 0, .int .i64 0] 25)).output = w1.output := ⟨rfl, rfl, rfl⟩
  generalize w1.alloc (.cells #[.complex .f32 0 0, .int .i64 0, .int .i64 0] 25) = w2 at z2 o2 s2 p2 ⊢
  have hWb := hb1.size
  generalize w1.heap.size = b3 at z2 o2 s2 hWb ⊢
  have c0 := atCell (i := 0) z2 rfl
  have f0 := atFroz (i := 0) z2
  have A1 := setAt (i := 0) (v := .complex .f32 x y) z2
  have c1 := atCell (i := 1) A1 rfl
  have f1 := atFroz (i := 1) A1
  have A2 := setAt (i := 1) (v := .int .i64 t) A1
  have c2 := atCell (i := 2) A2 rfl
  have f2 := atFroz (i := 2) A2
  have A3 := setAt (i := 2) (v := .int .i64 s) A2
  refine eN (w' := ((w2.setCell ⟨b3, 0, none⟩ (.complex .f32 x y)).setCell ⟨b3, 1, none⟩ (.int .i64 t)).setCell ⟨b3, 2, none⟩ (.int .i64 s)) rfl rfl (by decide) (by go_simp) (by
    intro e he
    have e0 := fun es => ev_store_complex (P := Try.prog) (k := .f32) (x := x) (y := y) (m := .plain) c0 f0 es
    simp [go_sem, e0, c0, f0, c1, f1, c2, f2] at he
    rcases he with rfl | rfl | rfl <;> exact nom_cell) ?_
  walk_nrm
  refine eV (.int .i64 kk) rfl rfl (by decide) (by go_simp <;> rfl) (by simp [go_sem, *]) ?_
  walk_nrm
  refine eS rfl stepG_region_end ?_
  have B3 : Below W.heap.size W (((w2.setCell ⟨b3, 0, none⟩ (.complex .f32 x y)).setCell ⟨b3, 1, none⟩ (.int .i64 t)).setCell ⟨b3, 2, none⟩ (.int .i64 s)) :=
    ⟨p2.1.trans hb1.os, p2.2.1.trans hb1.tape, p2.2.2.trans hb1.output, by simp [World.setCell]; omega, fun k hk => by
      rw [setOff (by omega), setOff (by omega), setOff (by omega)]
      exact (o2 k (by omega)).trans (hb1.block k hk)⟩
  have S3 : (((w2.setCell ⟨b3, 0, none⟩ (.complex .f32 x y)).setCell ⟨b3, 1, none⟩ (.int .i64 t)).setCell ⟨b3, 2, none⟩ (.int .i64 s)).heap.size = b3 + 1 := by simp [World.setCell]; omega
  have box : (((w2.setCell ⟨b3, 0, none⟩ (.complex .f32 x y)).setCell ⟨b3, 1, none⟩ (.int .i64 t)).setCell ⟨b3, 2, none⟩ (.int .i64 s)).heap[b3]? = some (.cells #[.complex .f32 x y, .int .i64 t, .int .i64 s] 25) := A3
  generalize ((w2.setCell ⟨b3, 0, none⟩ (.complex .f32 x y)).setCell ⟨b3, 1, none⟩ (.int .i64 t)).setCell ⟨b3, 2, none⟩ (.int .i64 s) = w3 at B3 S3 box ⊢
  clear A1 A2 A3 c0 c1 c2 f0 f1 f2 z2 o2 p2 s2 hb1
  have k6 := fun w₁ => swingWide_any (x, y) t s kk hx hy w₁
  have k7 := fun w₁ => specSwingWide_any (x, y) t s kk hx hy w₁
  have k10 := fun w₁ => swingAt_any (x, y) t s kk hx hy w₁
  have hnw := swW_nn (z := (x, y)) (t := t) (s := s) (k := kk) hx hy
  have k8 := fun w₁ => wideAlike_same (swW (x, y) t s kk).1 (swW (x, y) t s kk).2 hnw.1 hnw.2 w₁
  have kf := fun h => wide_facts (t := t) (s := s) (k := kk) hx hy h
  have ks := saZ_fin (z := (x, y)) (t := t) (s := s) (k := kk) hx hy
  have kv : saOk (x, y) t s kk = true → swOk x y t s = true := fun h => by unfold saOk at h; simp only [Bool.and_eq_true] at h; exact h.1
  simp only [zv, wv] at k6 k7 k10 k8
  generalize hqq : swW (x, y) t s kk = q at k6 k7 k8 kf
  clear hqq hnw
  obtain ⟨q1, q2⟩ := q
  generalize hgg : saZ (x, y) t s kk = g at k10 kf ks
  clear hgg
  obtain ⟨g1, g2⟩ := g
  generalize hss : saOk (x, y) t s kk = so at k6 k7 k10 kf kv
  clear hss
  simp only at k6 k7 k8 k10 kf
  have r28 := fun w => run_to128 w ks.1.nn ks.2.nn
  simp only at r28
  have e28 := fun w es => ev_to128 w es g1 g2
  have ee28 := fun (w : World) (es : Array Event) => ev_complexEql (P := Try.prog) (w := w) (es := es) 28 .f64 (to64 g1) (to64 g2) q1 q2
  have eb1 := fun (w : World) (a b : Bool) (es : Array Event) => ev_eqlB (P := Try.prog) (w := w) Try.underlying4 a b es
  have eb2 := fun (w : World) (a b : Bool) (es : Array Event) => ev_neqB (P := Try.prog) (w := w) Try.underlying4 a b es
  repeat (refine eS rfl stepG_seq ?_)
  refine eS rfl stepG_region ?_
  simp only [List.size_toArray, List.length_cons, List.length_nil, Nat.reduceAdd, Nat.zero_add, List.range, List.range.loop]
  refine eV (swv x y t s) rfl rfl (by decide) (by
    have h0 : w3.cell? ⟨b3, 0, none⟩ = some (.complex .f32 x y) := box0 box 0
    have h1 : w3.cell? ⟨b3, 1, none⟩ = some (.int .i64 t) := box1 box 0
    have h2 : w3.cell? ⟨b3, 2, none⟩ = some (.int .i64 s) := box2 box 0
    go_simp <;> rfl) (by
    have h0 : w3.cell? ⟨b3, 0, none⟩ = some (.complex .f32 x y) := box0 box 0
    have h1 : w3.cell? ⟨b3, 1, none⟩ = some (.int .i64 t) := box1 box 0
    have h2 : w3.cell? ⟨b3, 2, none⟩ = some (.int .i64 s) := box2 box 0
    intro e he
    simp [go_sem, h0, h1, h2] at he
    rcases he with rfl | rfl | rfl <;> exact nom_cell) ?_
  walk_nrm
  refine eV (.int .i64 kk) rfl rfl (by decide) (by go_simp <;> rfl) (by simp [go_sem, *]) ?_
  walk_nrm
  refine eCall (f := 6) (args := #[swv x y t s, .int .i64 kk]) sok rfl rfl (by decide) rfl (by simp [Act.eval]) (by decide) (by intro v hv; simp at hv; rcases hv with rfl | rfl <;> first | exact y0_swv | exact trivial) (yHeap_now w3) (k6 w3) (fun e w' h => ⟨_, h.1⟩) ?_
  rintro v w4 ⟨hv', hb4⟩
  obtain rfl : v = .tuple #[.complex .f64 q1 q2, .bool so] := by injection hv'
  clear hv'
  walk_nrm
  refine eV (.tuple #[.complex .f64 q1 q2, .bool so]) rfl rfl (by decide) (by go_simp <;> rfl) (by simp [go_sem, *]) ?_
  walk_nrm
  refine eV (.complex .f64 q1 q2) rfl rfl (by decide) (by go_simp <;> rfl) (by simp [go_sem, *]) ?_
  walk_nrm
  refine eV (.bool so) rfl rfl (by decide) (by go_simp <;> rfl) (by simp [go_sem, *]) ?_
  walk_nrm
  refine eV (.complex .f64 q1 q2) rfl rfl (by decide) (by go_simp <;> rfl) (by simp [go_sem, *]) ?_
  walk_nrm
  refine eV (.bool so) rfl rfl (by decide) (by go_simp <;> rfl) (by simp [go_sem, *]) ?_
  walk_nrm
  refine eS rfl stepG_region_end ?_
  have box4 := (hb4.block _ (by omega)).trans box
  repeat (refine eS rfl stepG_seq ?_)
  refine eS rfl stepG_region ?_
  simp only [List.size_toArray, List.length_cons, List.length_nil, Nat.reduceAdd, Nat.zero_add, List.range, List.range.loop]
  refine eV (swv x y t s) rfl rfl (by decide) (by
    have h0 : w4.cell? ⟨b3, 0, none⟩ = some (.complex .f32 x y) := box0 box4 0
    have h1 : w4.cell? ⟨b3, 1, none⟩ = some (.int .i64 t) := box1 box4 0
    have h2 : w4.cell? ⟨b3, 2, none⟩ = some (.int .i64 s) := box2 box4 0
    go_simp <;> rfl) (by
    have h0 : w4.cell? ⟨b3, 0, none⟩ = some (.complex .f32 x y) := box0 box4 0
    have h1 : w4.cell? ⟨b3, 1, none⟩ = some (.int .i64 t) := box1 box4 0
    have h2 : w4.cell? ⟨b3, 2, none⟩ = some (.int .i64 s) := box2 box4 0
    intro e he
    simp [go_sem, h0, h1, h2] at he
    rcases he with rfl | rfl | rfl <;> exact nom_cell) ?_
  walk_nrm
  refine eV (.int .i64 kk) rfl rfl (by decide) (by go_simp <;> rfl) (by simp [go_sem, *]) ?_
  walk_nrm
  refine eCall (f := 7) (args := #[swv x y t s, .int .i64 kk]) sok rfl rfl (by decide) rfl (by simp [Act.eval]) (by decide) (by intro v hv; simp at hv; rcases hv with rfl | rfl <;> first | exact y0_swv | exact trivial) (yHeap_now w4) (k7 w4) (fun e w' h => ⟨_, h.1⟩) ?_
  rintro v w5 ⟨hv', hb5⟩
  obtain rfl : v = .tuple #[.complex .f64 q1 q2, .bool so] := by injection hv'
  clear hv'
  walk_nrm
  refine eV (.tuple #[.complex .f64 q1 q2, .bool so]) rfl rfl (by decide) (by go_simp <;> rfl) (by simp [go_sem, *]) ?_
  walk_nrm
  refine eV (.complex .f64 q1 q2) rfl rfl (by decide) (by go_simp <;> rfl) (by simp [go_sem, *]) ?_
  walk_nrm
  refine eV (.bool so) rfl rfl (by decide) (by go_simp <;> rfl) (by simp [go_sem, *]) ?_
  walk_nrm
  refine eV (.complex .f64 q1 q2) rfl rfl (by decide) (by go_simp <;> rfl) (by simp [go_sem, *]) ?_
  walk_nrm
  refine eV (.bool so) rfl rfl (by decide) (by go_simp <;> rfl) (by simp [go_sem, *]) ?_
  walk_nrm
  refine eS rfl stepG_region_end ?_
  have box5 := (hb5.block _ (by have := hb4.size; omega)).trans box4
  have B5 : Below W.heap.size W w5 := (B3.trans (hb4.mono (by omega))).trans (hb5.mono (by have := hb4.size; omega))
  have S5 : b3 < w5.heap.size := by have := hb4.size; have := hb5.size; omega
  cases so
  case false =>
    refine E.leave ?_
    repeat (refine gwS de0 rfl (fun _ => stepG_seq) ?_)
    refine gwS de0 rfl (fun _ => stepG_region) ?_
    simp only [List.size_toArray, List.length_cons, List.length_nil, Nat.reduceAdd, Nat.zero_add, List.range, List.range.loop]
    refine gwV de0 (.bool false) rfl rfl (by decide) (fun _ => by go_simp <;> rfl) (fun _ => by simp [go_sem, *]) ?_
    walk_nrm
    refine gwV de0 (.bool false) rfl rfl (by decide) (fun _ => by go_simp <;> rfl) (fun _ => by simp [go_sem, *]) ?_
    walk_nrm
    refine gwV de0 (.bool false) rfl rfl (by decide) (fun _ => by go_simp <;> rfl) (fun _ => by simp [go_sem, *]) ?_
    walk_nrm
    refine gwV de0 (.bool false) rfl rfl (by decide) (fun _ => by go_simp <;> rfl) (fun _ => by simp [go_sem, *]) ?_
    walk_nrm
    refine gwV de0 (.complex .f64 q1 q2) rfl rfl (by decide) (fun _ => by go_simp <;> rfl) (fun _ => by simp [go_sem, *]) ?_
    walk_nrm
    refine gwV de0 (.complex .f64 q1 q2) rfl rfl (by decide) (fun _ => by go_simp <;> rfl) (fun _ => by simp [go_sem, *]) ?_
    walk_nrm
    refine gwCall (f := 8) (args := #[.complex .f64 q1 q2, .complex .f64 q1 q2]) (Q := fun v => v = .bool true) sok rfl rfl (by decide) rfl (by simp [Act.eval]) (by decide) (by intro v hv; simp at hv; subst hv; exact trivial) (fun l hl => hl.elim) (fun w₁ => (k8 w₁).mono fun e w' h => ⟨_, h.1, rfl⟩) ?_
    rintro v w6 rfl hb6
    walk_nrm
    refine gwV de0 (.bool false) rfl rfl (by decide) (fun _ => by go_simp <;> rfl) (fun _ => by simp [go_sem, *]) ?_
    walk_nrm
    refine gwV de0 (.bool false) rfl rfl (by decide) (fun _ => by go_simp <;> rfl) (fun _ => by simp [go_sem, *]) ?_
    walk_nrm
    refine gwV de0 (.bool false) rfl rfl (by decide) (fun _ => by go_simp <;> rfl) (fun _ => by simp [go_sem, *]) ?_
    walk_nrm
    refine gwV de0 (.bool false) rfl rfl (by decide) (fun _ => by go_simp <;> rfl) (fun _ => by simp [go_sem, *]) ?_
    walk_nrm
    refine gwV de0 (.bool true) rfl rfl (by decide) (fun _ => by go_simp <;> rfl) (fun _ => by simp [go_sem, *]) ?_
    walk_nrm
    refine gwV de0 (.bool true) rfl rfl (by decide) (fun _ => by go_simp <;> rfl) (fun _ => by simp [go_sem, *]) ?_
    walk_nrm
    refine gwS de0 rfl (fun _ => stepG_region_end) ?_
    refine gwS de0 rfl (fun _ => stepG_cond (t := true) rfl) ?_
    simp only [if_true]
    repeat (refine gwS de0 rfl (fun _ => stepG_seq) ?_)
    refine gwS de0 rfl (fun _ => stepG_region) ?_
    simp only [List.size_toArray, List.length_cons, List.length_nil, Nat.reduceAdd, Nat.zero_add, List.range, List.range.loop]
    refine gwV de0 (.bool false) rfl rfl (by decide) (fun _ => by go_simp <;> rfl) (fun _ => by simp [go_sem, *]) ?_
    walk_nrm
    refine gwV de0 (.bool false) rfl rfl (by decide) (fun _ => by go_simp <;> rfl) (fun _ => by simp [go_sem, *]) ?_
    walk_nrm
    refine gwV de0 (.bool true) rfl rfl (by decide) (fun _ => by go_simp <;> rfl) (fun _ => by simp [go_sem, *]) ?_
    walk_nrm
    refine gwV de0 (.bool true) rfl rfl (by decide) (fun _ => by go_simp <;> rfl) (fun _ => by simp [go_sem, *]) ?_
    walk_nrm
    refine gwV de0 (.complex .f64 q1 q2) rfl rfl (by decide) (fun _ => by go_simp <;> rfl) (fun _ => by simp [go_sem, *]) ?_
    walk_nrm
    refine gwV de0 (.complex .f64 q1 q2) rfl rfl (by decide) (fun _ => by go_simp <;> rfl) (fun _ => by simp [go_sem, *]) ?_
    walk_nrm
    refine gwCall (f := 8) (args := #[.complex .f64 q1 q2, .complex .f64 q1 q2]) (Q := fun v => v = .bool true) sok rfl rfl (by decide) rfl (by simp [Act.eval]) (by decide) (by intro v hv; simp at hv; subst hv; exact trivial) (fun l hl => hl.elim) (fun w₁ => (k8 w₁).mono fun e w' h => ⟨_, h.1, rfl⟩) ?_
    rintro v w7 rfl hb7
    walk_nrm
    refine gwV de0 (.bool true) rfl rfl (by decide) (fun _ => by go_simp <;> rfl) (fun _ => by simp [go_sem, *]) ?_
    walk_nrm
    refine gwV de0 (.bool true) rfl rfl (by decide) (fun _ => by go_simp <;> rfl) (fun _ => by simp [go_sem, *]) ?_
    walk_nrm
    refine gwS de0 rfl (fun _ => stepG_region_end) ?_
    refine gwS de0 rfl (fun _ => stepG_ret') ?_
    refine atEnd (fn := Try.f3) (v := .bool true) rfl inits3 rfl Try.func3 (fun w => by simp [results, Try.f3]) (fun w => by simp [results, Try.f3]) (fun d => ?_)
    exact hP _ (belowAt ((B5.trans (hb6.mono (by omega))).trans (hb7.mono (by have := hb6.size; omega))) d)
  case true =>
    repeat (refine eS rfl stepG_seq ?_)
    refine eS rfl stepG_region ?_
    simp only [List.size_toArray, List.length_cons, List.length_nil, Nat.reduceAdd, Nat.zero_add, List.range, List.range.loop]
    refine eV (.bool true) rfl rfl (by decide) (by go_simp <;> rfl) (by simp [go_sem, *]) ?_
    walk_nrm
    refine eV (.bool true) rfl rfl (by decide) (by go_simp <;> rfl) (by simp [go_sem, *]) ?_
    walk_nrm
    refine eV (.bool false) rfl rfl (by decide) (by go_simp <;> rfl) (by simp [go_sem, *]) ?_
    walk_nrm
    refine eV (.bool false) rfl rfl (by decide) (by go_simp <;> rfl) (by simp [go_sem, *]) ?_
    walk_nrm
    refine eV (.complex .f64 q1 q2) rfl rfl (by decide) (by go_simp <;> rfl) (by simp [go_sem, *]) ?_
    walk_nrm
    refine eV (.complex .f64 q1 q2) rfl rfl (by decide) (by go_simp <;> rfl) (by simp [go_sem, *]) ?_
    walk_nrm
    refine eCall (f := 8) (args := #[.complex .f64 q1 q2, .complex .f64 q1 q2]) sok rfl rfl (by decide) rfl (by simp [Act.eval]) (by decide) (by intro v hv; simp at hv; subst hv; exact trivial) (yHeap_now w5) (k8 w5) (fun e w' h => ⟨_, h.1⟩) ?_
    rintro v w6 ⟨hv', hw6⟩
    obtain rfl : v = .bool true := by injection hv'
    clear hv'
    subst hw6
    walk_nrm
    refine eV (.bool false) rfl rfl (by decide) (by go_simp <;> rfl) (by simp [go_sem, *]) ?_
    walk_nrm
    refine eV (.bool false) rfl rfl (by decide) (by go_simp <;> rfl) (by simp [go_sem, *]) ?_
    walk_nrm
    refine eV (.bool false) rfl rfl (by decide) (by go_simp <;> rfl) (by simp [go_sem, *]) ?_
    walk_nrm
    refine eV (.bool true) rfl rfl (by decide) (by go_simp <;> rfl) (by simp [go_sem, *]) ?_
    walk_nrm
    refine eV (.bool false) rfl rfl (by decide) (by go_simp <;> rfl) (by simp [go_sem, *]) ?_
    walk_nrm
    refine eV (.bool false) rfl rfl (by decide) (by go_simp <;> rfl) (by simp [go_sem, *]) ?_
    walk_nrm
    refine eS rfl stepG_region_end ?_
    refine eS rfl (stepG_cond (t := false) rfl) ?_
    simp only [Bool.false_eq_true, if_false]
    refine eS rfl stepG_skip ?_
    repeat (refine eS rfl stepG_seq ?_)
    refine eS rfl stepG_region ?_
    simp only [List.size_toArray, List.length_cons, List.length_nil, Nat.reduceAdd, Nat.zero_add, List.range, List.range.loop]
    refine eV (swv x y t s) rfl rfl (by decide) (by
      have h0 : w5.cell? ⟨b3, 0, none⟩ = some (.complex .f32 x y) := box0 box5 0
      have h1 : w5.cell? ⟨b3, 1, none⟩ = some (.int .i64 t) := box1 box5 0
      have h2 : w5.cell? ⟨b3, 2, none⟩ = some (.int .i64 s) := box2 box5 0
      go_simp <;> rfl) (by
      have h0 : w5.cell? ⟨b3, 0, none⟩ = some (.complex .f32 x y) := box0 box5 0
      have h1 : w5.cell? ⟨b3, 1, none⟩ = some (.int .i64 t) := box1 box5 0
      have h2 : w5.cell? ⟨b3, 2, none⟩ = some (.int .i64 s) := box2 box5 0
      intro e he
      simp [go_sem, h0, h1, h2] at he
      rcases he with rfl | rfl | rfl <;> exact nom_cell) ?_
    walk_nrm
    refine eS rfl (stepG_callE w5 rfl rfl (by decide) rfl Try.func9 (by rfl) rfl) ?_
    have key : ∀ c, (∀ (Sh : Loc → Prop) (w' : World), Below w5.heap.size w5 w' → (∀ l, Sh l → (∃ a, l = .cell a ∧ a.block < w'.heap.size) ∨ ∃ c, l = .obj c ∧ c < w'.heap.size) → (∀ i, ¬ Sh (.cell ⟨b3, i, none⟩)) →
        GoesW Try.prog true (DE Sh) (AtEndS Try.prog Sh Post) (G (c.finish (.tuple #[.int .i64 (losV (x, y) t s), .bool (swOk x y t s)])) []) w') → E Try.prog Post 0 (G (Frame.enter Try.prog 9 #[swv x y t s] .normal) [c]) w5 := fun c tail => by
      refine lost_head x y t s hx hy w5 (fun hok w' hb => ?_) (fun t' s' ht hs hz ht3 hs4 K w' hKP h1 h2 h3 hb => ?_)
      · have h := tail (fun _ => False) w' hb (fun l h => h.elim) (fun i h => h)
        rw [hok, show losV (x, y) t s = 0 by rw [losV, hok]; rfl] at h
        exact E.leave h
      · subst ht hs
        have hok : swOk x y (t' : Int) (s' : Int) = true := by
          simp only [swOk, Bool.and_eq_true]
          exact ⟨⟨⟨(finB_iff hx).2 hz.1, (finB_iff hy).2 hz.2⟩, inB_iff.2 ⟨by omega, by omega⟩⟩, inB_iff.2 ⟨by omega, by omega⟩⟩
        have h := tail (Shn K) w' hb (fun l hl => ?_) (fun i hi => ?_)
        · rw [hok, show losV (x, y) (t' : Int) (s' : Int) = lostAt t' s' (x, y) 401 by rw [lostAt_all, losV, if_pos hok]; rfl] at h
          exact h
        · rcases hl with ⟨a, rfl, ha⟩ | ⟨c, hc, rfl⟩
          · exact .inl ⟨a, rfl, by omega⟩
          · exact .inr ⟨c, rfl, by omega⟩
        · rcases hi with ⟨a, ha, hb'⟩ | ⟨c, _, hc⟩
          · cases ha
            simp only at hb'
            omega
          · cases hc
    simp only [List.map_toArray, List.map_cons, List.map_nil, Act.eval, Array.getD_eq_getD_getElem?, List.getElem?_toArray, List.getElem?_cons_succ, List.getElem?_cons_zero, Option.getD_some]
    refine key _ ?_
    clear key
    intro Sh w' hB hSh hn
    have hok := kv rfl
    have box := (hB.block _ (by omega)).trans box5
    rw [Frame.finish_at]
    walk_nrm
    have kf := kf rfl
    rw [hok]
    generalize losV (x, y) t s = ou at kf ⊢
    clear kv
    refine gwV de0 (.tuple #[.int .i64 ou, .bool true]) rfl rfl (by decide) (fun _ => by go_simp <;> rfl) (fun _ => by simp [go_sem, *]) ?_
    walk_nrm
    refine gwV de0 (.int .i64 ou) rfl rfl (by decide) (fun _ => by go_simp <;> rfl) (fun _ => by simp [go_sem, *]) ?_
    walk_nrm
    refine gwV de0 (.bool true) rfl rfl (by decide) (fun _ => by go_simp <;> rfl) (fun _ => by simp [go_sem, *]) ?_
    walk_nrm
    refine gwV de0 (.int .i64 ou) rfl rfl (by decide) (fun _ => by go_simp <;> rfl) (fun _ => by simp [go_sem, *]) ?_
    walk_nrm
    refine gwV de0 (.bool true) rfl rfl (by decide) (fun _ => by go_simp <;> rfl) (fun _ => by simp [go_sem, *]) ?_
    walk_nrm
    refine gwS de0 rfl (fun _ => stepG_region_end) ?_
    repeat (refine gwS de0 rfl (fun _ => stepG_seq) ?_)
    refine gwS de0 rfl (fun _ => stepG_region) ?_
    simp only [List.size_toArray, List.length_cons, List.length_nil, Nat.reduceAdd, Nat.zero_add, List.range, List.range.loop]
    refine gwO (swv x y t s) rfl rfl (by decide) (fun d => by
      have h0 : (w'.at d).cell? ⟨b3, 0, none⟩ = some (.complex .f32 x y) := box0 box d
      have h1 : (w'.at d).cell? ⟨b3, 1, none⟩ = some (.int .i64 t) := box1 box d
      have h2 : (w'.at d).cell? ⟨b3, 2, none⟩ = some (.int .i64 s) := box2 box d
      go_simp) (fun d e he => by
      have h0 : (w'.at d).cell? ⟨b3, 0, none⟩ = some (.complex .f32 x y) := box0 box d
      have h1 : (w'.at d).cell? ⟨b3, 1, none⟩ = some (.int .i64 t) := box1 box d
      have h2 : (w'.at d).cell? ⟨b3, 2, none⟩ = some (.int .i64 s) := box2 box d
      simp [go_sem, h0, h1, h2] at he
      rcases he with rfl | rfl | rfl <;> exact evS_read (hn _)) ?_
    walk_nrm
    refine gwV de0 (.int .i64 kk) rfl rfl (by decide) (fun _ => by go_simp <;> rfl) (fun _ => by simp [go_sem, *]) ?_
    walk_nrm
    refine gwCall (f := 10) (args := #[swv x y t s, .int .i64 kk]) (Q := fun v => v = .tuple #[.complex .f32 g1 g2, .bool true]) sok rfl rfl (by decide) rfl (by simp [Act.eval]) (by decide) (by intro v hv; simp at hv; rcases hv with rfl | rfl <;> first | exact y0_swv | exact trivial) hSh (fun w₁ => (k10 w₁).mono fun e w' h => ⟨_, h.1, rfl⟩) ?_
    rintro v w7 rfl hb7
    walk_nrm
    refine gwV de0 (.tuple #[.complex .f32 g1 g2, .bool true]) rfl rfl (by decide) (fun _ => by go_simp <;> rfl) (fun _ => by simp [go_sem, *]) ?_
    walk_nrm
    refine gwV de0 (.complex .f32 g1 g2) rfl rfl (by decide) (fun _ => by go_simp <;> rfl) (fun _ => by simp [go_sem, *]) ?_
    walk_nrm
    refine gwV de0 (.bool true) rfl rfl (by decide) (fun _ => by go_simp <;> rfl) (fun _ => by simp [go_sem, *]) ?_
    walk_nrm
    refine gwV de0 (.complex .f32 g1 g2) rfl rfl (by decide) (fun _ => by go_simp <;> rfl) (fun _ => by simp [go_sem, *]) ?_
    walk_nrm
    refine gwV de0 (.bool true) rfl rfl (by decide) (fun _ => by go_simp <;> rfl) (fun _ => by simp [go_sem, *]) ?_
    walk_nrm
    refine gwS de0 rfl (fun _ => stepG_region_end) ?_
    have B7 : Below W.heap.size W w7 := (B5.trans (hB.mono (by omega))).trans (hb7.mono (by have := hB.size; omega))
    repeat (refine gwS de0 rfl (fun _ => stepG_seq) ?_)
    refine gwS de0 rfl (fun _ => stepG_region) ?_
    simp only [List.size_toArray, List.length_cons, List.length_nil, Nat.reduceAdd, Nat.zero_add, List.range, List.range.loop]
    refine gwV de0 (.bool true) rfl rfl (by decide) (fun _ => by go_simp <;> rfl) (fun _ => by simp [go_sem, *]) ?_
    walk_nrm
    refine gwV de0 (.bool true) rfl rfl (by decide) (fun _ => by go_simp <;> rfl) (fun _ => by simp [go_sem, *]) ?_
    walk_nrm
    refine gwV de0 (.bool true) rfl rfl (by decide) (fun _ => by go_simp <;> rfl) (fun _ => by simp [go_sem, *]) ?_
    walk_nrm
    refine gwV de0 (.bool true) rfl rfl (by decide) (fun _ => by go_simp <;> rfl) (fun _ => by simp [go_sem, *]) ?_
    walk_nrm
    refine gwV de0 (.bool true) rfl rfl (by decide) (fun _ => by go_simp <;> rfl) (fun _ => by simp [go_sem, *]) ?_
    walk_nrm
    refine gwV de0 (.int .i64 ou) rfl rfl (by decide) (fun _ => by go_simp <;> rfl) (fun _ => by simp [go_sem, *]) ?_
    walk_nrm
    rcases kf with ⟨h0, hle⟩ | ⟨hneg | ⟨h0, hgt⟩, o1, o2⟩
    case inl =>
      refine gwV de0 (.bool true) rfl rfl (by decide) (fun _ => by have h : decide (0 ≤ ou) = true := decide_eq_true h0; go_simp <;> rfl) (fun _ => by simp [go_sem, *]) ?_
      walk_nrm
      refine gwV de0 (.bool true) rfl rfl (by decide) (fun _ => by go_simp <;> rfl) (fun _ => by simp [go_sem, *]) ?_
      walk_nrm
      refine gwV de0 (.int .i64 ou) rfl rfl (by decide) (fun _ => by go_simp <;> rfl) (fun _ => by simp [go_sem, *]) ?_
      walk_nrm
      refine gwV de0 (.int .i64 kk) rfl rfl (by decide) (fun _ => by go_simp <;> rfl) (fun _ => by simp [go_sem, *]) ?_
      walk_nrm
      refine gwV de0 (.bool true) rfl rfl (by decide) (fun _ => by have h : decide (ou ≤ kk) = true := decide_eq_true hle; go_simp <;> rfl) (fun _ => by simp [go_sem, *]) ?_
      walk_nrm
      refine gwV de0 (.bool true) rfl rfl (by decide) (fun _ => by go_simp <;> rfl) (fun _ => by simp [go_sem, *]) ?_
      walk_nrm
      refine gwV de0 (.bool true) rfl rfl (by decide) (fun _ => by go_simp <;> rfl) (fun _ => by simp [go_sem, *]) ?_
      walk_nrm
      refine gwS de0 rfl (fun _ => stepG_unwanted rfl rfl) ?_
      walk_nrm
      refine gwS de0 rfl (fun _ => stepG_unwanted rfl rfl) ?_
      walk_nrm
      refine gwS de0 rfl (fun _ => stepG_unwanted rfl rfl) ?_
      walk_nrm
      refine gwS de0 rfl (fun _ => stepG_unwanted rfl rfl) ?_
      walk_nrm
      refine gwV de0 (.bool true) rfl rfl (by decide) (fun _ => by go_simp <;> rfl) (fun _ => by simp [go_sem, *]) ?_
      walk_nrm
      refine gwV de0 (.bool true) rfl rfl (by decide) (fun _ => by go_simp <;> rfl) (fun _ => by simp [go_sem, *]) ?_
      walk_nrm
      refine gwV de0 (.bool true) rfl rfl (by decide) (fun _ => by go_simp <;> rfl) (fun _ => by simp [go_sem, *]) ?_
      walk_nrm
      refine gwS de0 rfl (fun _ => stepG_region_end) ?_
      refine gwS de0 rfl (fun _ => stepG_ret') ?_
      refine atEnd (fn := Try.f3) (v := .bool true) rfl inits3 rfl Try.func3 (fun w => by simp [results, Try.f3]) (fun w => by simp [results, Try.f3]) (fun d => ?_)
      exact hP _ (belowAt B7 d)
    case inr.inl =>
      refine gwV de0 (.bool false) rfl rfl (by decide) (fun _ => by have h : decide (0 ≤ ou) = false := decide_eq_false (by omega); go_simp <;> rfl) (fun _ => by simp [go_sem, *]) ?_
      walk_nrm
      refine gwV de0 (.bool false) rfl rfl (by decide) (fun _ => by go_simp <;> rfl) (fun _ => by simp [go_sem, *]) ?_
      walk_nrm
      refine gwS de0 rfl (fun _ => stepG_unwanted rfl rfl) ?_
      walk_nrm
      refine gwS de0 rfl (fun _ => stepG_unwanted rfl rfl) ?_
      walk_nrm
      refine gwS de0 rfl (fun _ => stepG_unwanted rfl rfl) ?_
      walk_nrm
      refine gwV de0 (.bool false) rfl rfl (by decide) (fun _ => by go_simp <;> rfl) (fun _ => by simp [go_sem, *]) ?_
      walk_nrm
      refine gwV de0 (.bool false) rfl rfl (by decide) (fun _ => by go_simp <;> rfl) (fun _ => by simp [go_sem, *]) ?_
      walk_nrm
      refine gwV de0 (.complex .f32 g1 g2) rfl rfl (by decide) (fun _ => by go_simp <;> rfl) (fun _ => by simp [go_sem, *]) ?_
      walk_nrm
      refine gwV de0 (.complex .f64 (to64 g1) (to64 g2)) rfl rfl (by decide) (fun _ => by go_simp <;> rfl) (fun _ => by simp [go_sem, *]) ?_
      walk_nrm
      refine gwV de0 (.complex .f64 q1 q2) rfl rfl (by decide) (fun _ => by go_simp <;> rfl) (fun _ => by simp [go_sem, *]) ?_
      walk_nrm
      refine gwV de0 (.bool true) rfl rfl (by decide) (fun _ => by go_simp <;> rfl) (fun _ => by simp [go_sem, *]) ?_
      walk_nrm
      refine gwV de0 (.bool true) rfl rfl (by decide) (fun _ => by go_simp <;> rfl) (fun _ => by simp [go_sem, *]) ?_
      walk_nrm
      refine gwV de0 (.bool true) rfl rfl (by decide) (fun _ => by go_simp <;> rfl) (fun _ => by simp [go_sem, *]) ?_
      walk_nrm
      refine gwV de0 (.bool true) rfl rfl (by decide) (fun _ => by go_simp <;> rfl) (fun _ => by simp [go_sem, *]) ?_
      walk_nrm
      refine gwS de0 rfl (fun _ => stepG_region_end) ?_
      refine gwS de0 rfl (fun _ => stepG_ret') ?_
      refine atEnd (fn := Try.f3) (v := .bool true) rfl inits3 rfl Try.func3 (fun w => by simp [results, Try.f3]) (fun w => by simp [results, Try.f3]) (fun d => ?_)
      exact hP _ (belowAt B7 d)
    case inr.inr =>
      refine gwV de0 (.bool true) rfl rfl (by decide) (fun _ => by have h : decide (0 ≤ ou) = true := decide_eq_true h0; go_simp <;> rfl) (fun _ => by simp [go_sem, *]) ?_
      walk_nrm
      refine gwV de0 (.bool true) rfl rfl (by decide) (fun _ => by go_simp <;> rfl) (fun _ => by simp [go_sem, *]) ?_
      walk_nrm
      refine gwV de0 (.int .i64 ou) rfl rfl (by decide) (fun _ => by go_simp <;> rfl) (fun _ => by simp [go_sem, *]) ?_
      walk_nrm
      refine gwV de0 (.int .i64 kk) rfl rfl (by decide) (fun _ => by go_simp <;> rfl) (fun _ => by simp [go_sem, *]) ?_
      walk_nrm
      refine gwV de0 (.bool false) rfl rfl (by decide) (fun _ => by have h : decide (ou ≤ kk) = false := decide_eq_false (by omega); go_simp <;> rfl) (fun _ => by simp [go_sem, *]) ?_
      walk_nrm
      refine gwV de0 (.bool false) rfl rfl (by decide) (fun _ => by go_simp <;> rfl) (fun _ => by simp [go_sem, *]) ?_
      walk_nrm
      refine gwV de0 (.bool false) rfl rfl (by decide) (fun _ => by go_simp <;> rfl) (fun _ => by simp [go_sem, *]) ?_
      walk_nrm
      refine gwV de0 (.complex .f32 g1 g2) rfl rfl (by decide) (fun _ => by go_simp <;> rfl) (fun _ => by simp [go_sem, *]) ?_
      walk_nrm
      refine gwV de0 (.complex .f64 (to64 g1) (to64 g2)) rfl rfl (by decide) (fun _ => by go_simp <;> rfl) (fun _ => by simp [go_sem, *]) ?_
      walk_nrm
      refine gwV de0 (.complex .f64 q1 q2) rfl rfl (by decide) (fun _ => by go_simp <;> rfl) (fun _ => by simp [go_sem, *]) ?_
      walk_nrm
      refine gwV de0 (.bool true) rfl rfl (by decide) (fun _ => by go_simp <;> rfl) (fun _ => by simp [go_sem, *]) ?_
      walk_nrm
      refine gwV de0 (.bool true) rfl rfl (by decide) (fun _ => by go_simp <;> rfl) (fun _ => by simp [go_sem, *]) ?_
      walk_nrm
      refine gwV de0 (.bool true) rfl rfl (by decide) (fun _ => by go_simp <;> rfl) (fun _ => by simp [go_sem, *]) ?_
      walk_nrm
      refine gwV de0 (.bool true) rfl rfl (by decide) (fun _ => by go_simp <;> rfl) (fun _ => by simp [go_sem, *]) ?_
      walk_nrm
      refine gwS de0 rfl (fun _ => stepG_region_end) ?_
      refine gwS de0 rfl (fun _ => stepG_ret') ?_
      refine atEnd (fn := Try.f3) (v := .bool true) rfl inits3 rfl Try.func3 (fun w => by simp [results, Try.f3]) (fun w => by simp [results, Try.f3]) (fun d => ?_)
      exact hP _ (belowAt B7 d)
end Go.Proofs.Ytmoajpkgdimdaaa
