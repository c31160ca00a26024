/- SwingLost: from its entry, alone, to the first go statement; the crew; Wait; the way out, beside leavers. -/
import Derived.Test.YtmoajpkgdimdaaaLostA
set_option linter.unusedSectionVars false
set_option linter.unusedVariables false
set_option linter.unusedSimpArgs false
namespace Go.Proofs.Ytmoajpkgdimdaaa
open Go.Conc Go.ConcN Go.RowKit Go.Conc.Lib Go.ConcR.Gen
open Go.ConcR (KK wgBlock WgAt stA smA rd wr mk Payload)

theorem info23 : ∃ i, Try.prog.info? 23 = some i ∧ i.bytes = 8 := by
  have h : (Try.prog.info? 23).map (·.bytes) = some 8 := by kernel_rfl
  obtain ⟨i, hi, hb⟩ := Option.map_eq_some_iff.1 h
  exact ⟨i, hi, hb⟩
theorem info28 : ∃ i, Try.prog.info? 28 = some i ∧ i.bytes = 16 := by
  have h : (Try.prog.info? 28).map (·.bytes) = some 16 := by kernel_rfl
  obtain ⟨i, hi, hb⟩ := Option.map_eq_some_iff.1 h
  exact ⟨i, hi, hb⟩
theorem mk44 (w : World) : (Instr.makeChan 44 (.int .i64 0)).run Try.prog w = .ok (.chan (some w.heap.size)) (w.alloc (.chan 0 #[] false 0 0 false)) := by
  obtain ⟨i, hi, hb⟩ := info23
  simpa using run_makeChan (P := Try.prog) (w := w) Try.underlying44 hi .i64 0 (by omega) (by rw [hb]; omega)
theorem mk45 (w : World) : (Instr.makeChan 45 (.int .i64 0)).run Try.prog w = .ok (.chan (some w.heap.size)) (w.alloc (.chan 0 #[] false 0 0 false)) := by
  obtain ⟨i, hi, hb⟩ := info28
  simpa using run_makeChan (P := Try.prog) (w := w) Try.underlying45 hi .i64 0 (by omega) (by rw [hb]; omega)
theorem mk44e (w : World) (es : Array Event) : (Instr.makeChan 44 (.int .i64 0)).events Try.prog w es = es := by
  obtain ⟨i, hi, hb⟩ := info23
  simpa using events_makeChan (P := Try.prog) (w := w) Try.underlying44 hi .i64 0 (by omega) (by rw [hb]; omega) es
theorem mk45e (w : World) (es : Array Event) : (Instr.makeChan 45 (.int .i64 0)).events Try.prog w es = es := by
  obtain ⟨i, hi, hb⟩ := info28
  simpa using events_makeChan (P := Try.prog) (w := w) Try.underlying45 hi .i64 0 (by omega) (by rw [hb]; omega) es
theorem nom_cell {a : Addr} {x y : Bool} : NoM ⟨.cell a, x, y⟩ := ⟨by simp, by simp, by simp⟩

theorem mixed9 : Try.prog.follows .mixedOrders = true := by kernel_rfl
noncomputable def Kof (x y t s C Lb Wg cN cB : Nat) : Cst :=
  { P := Try.prog, ty := wlink.tWg, Wg := Wg, C := C, Lb := Lb, cN := cN, cB := cB, H0 := Wg + 1, tb := 25, tr := 23, zN := .complex .f32 0 0, zB := .complex .f64 0 0, val := fun i => if i = 0 then .complex .f32 x y else if i = 1 then .int .i64 t else .int .i64 s, lost := .cells #[.int .i64 (lostAt t s (x, y) 401)] 3, lost0 := .cells #[.int .i64 (-1)] 3 }
theorem yHeap_now {T : Nat → Prop} (w : World) : yHeap (w.heap.size ≤ ·) T w := ⟨fun _ h => h, fun b o hb ho => by rw [Array.getElem?_eq_none hb] at ho; cases ho⟩
theorem y0_swv {H : Nat → Prop} {T : Nat → Prop} {x y : Nat} {t s : Int} : y0 H T (swv x y t s) := y0_agg.2 (by simp [y0])
noncomputable def rest9 : Code := match Try.f9.body with
  | some (.seq _ (.seq _ (.seq _ (.seq _ (.seq _ (.seq _ R)))))) => R
  | _ => .skip
def StAt (g0 : Goroutine) (w0 : World) (g : Goroutine) (w : World) : Prop := g = g0 ∧ ∃ d, w = w0.at d
theorem goStop {P : Program} {main : Bool} {D : World → World → Array Event → Prop} {g : Goroutine} {w : World} : GoesW P main D (StAt g w) g w := .stop fun d => ⟨rfl, d, rfl⟩
set_option maxRecDepth 100000 in
set_option maxHeartbeats 4000000 in
/-- From the first go statement on. -/
theorem lost_go {Post : Value → World → Prop} {K : Cst} {vN vB : Nat} {z : Z2} {t s : Nat} (N : Nums K vN vB) (V : Vals K z t s) (Z : Zer K z t s) (hz : FinZ z) (ht : t ≤ 3) (hs : s ≤ 4) (w6 : World) (E6 : Env K vN vB z t s w6) (g6 : WgAt K.ty K.Wg w6 (3 * KK) 0)
    (l6 : w6.heap[K.Lb]? = some K.lost0) (hcn : chA K.cN false w6) (hcb : chA K.cB false w6) (c : Frame) (cs : List Frame) (u0 u2 u3 u8 u9 u10 u11 u12 u13 u14 u15 u16 u17 u18 : Value)
    (hsuf : ∀ w', Kept K w6 w' → w'.heap[K.Lb]? = some K.lost → GoesW Try.prog true (DE (Shn K)) (AtEndS Try.prog (Shn K) Post) (G (c.finish (.tuple #[.int .i64 (lostAt t s z 401), .bool true])) cs) w') :
    E Try.prog Post 0 (G ((base 9).at ⟨#[u0, .pointer (some ⟨K.C, 0, none⟩), u2, u3, .pointer (some ⟨vN, 0, none⟩), .pointer (some ⟨vB, 0, none⟩), .pointer (some ⟨K.Lb, 0, none⟩), .pointer (some ⟨K.Wg, 0, none⟩), u8, u9, u10, u11, u12, u13, u14, u15, u16, u17, u18], []⟩ [.code rest9]) (c :: cs)) w6 := by
  simp only [rest9, Try.f9]
  refine eS rfl stepG_seq ?_
  refine eS rfl stepG_region ?_
  simp only [List.size_toArray, List.length_cons, List.length_nil, Nat.reduceAdd, Nat.zero_add, List.range, List.range.loop]
  refine eV (.func (.func 23) #[] #[.pointer (some ⟨K.Wg, 0, none⟩), .pointer (some ⟨vN, 0, none⟩), .pointer (some ⟨K.C, 0, none⟩)]) rfl rfl (by decide) (by go_simp <;> rfl) (by simp [go_sem]) ?_
  walk_nrm
  intro tr htr
  have hP := N.prog
  have T := termsM K
  have H : WgLib K.P wlink := by rw [hP]; exact wlib
  rw [← hP] at hsuf ⊢
  have hQ : (fun (g : Goroutine) (w' : World) => Kept K w6 w' → w'.heap[K.Lb]? = some K.lost → GoesW K.P true (DE (Shn K)) (AtEndS K.P (Shn K) Post) g w') = fun g w' => (Kept K w6 w' ∧ w'.heap[K.Lb]? = some K.lost) → GoesW K.P true (DE (Shn K)) (AtEndS K.P (Shn K) Post) g w' := by
    funext g w'
    simp only [and_imp]
  refine crew_ends (K := K) (Anch := AnchM K _ (c :: cs)) (D := DE (Shn K)) (ns := valN t s z 0 401) (bs := valB t s (toW z) 0 401) (rs := valR t s z 0 401) (fun g w h => h.run) ?hAn N.geo (fun w w' es h => h) (valR_fst t s z 401 0).symm (valR_snd t s z 401 0).symm (by
    refine ⟨rfl, _, _, (stepG_spawn (d := wcall 23 #[.pointer (some ⟨K.Wg, 0, none⟩), .pointer (some ⟨vN, 0, none⟩), .pointer (some ⟨K.C, 0, none⟩)]) (w' := w6) (f := .func 23) (c := #[.pointer (some ⟨K.Wg, 0, none⟩), .pointer (some ⟨vN, 0, none⟩), .pointer (some ⟨K.C, 0, none⟩)]) rfl rfl (by decide) (by simp [go_sem, wcall, Deferred.ofValue]) rfl).trans (by rw [listed_nil (by simp [go_sem])]), fun _ => ?_, 10, ?_⟩
    · obtain ⟨m, h⟩ := narrow_c N V hz ht hs w6 E6
      rw [hP]
      exact ⟨m, .snd h⟩
    walk_nrm
    refine mvS T rfl (fun _ => stepG_region_end) ?_
    refine mvS T rfl (fun _ => stepG_seq) ?_
    refine mvS T rfl (fun _ => stepG_region) ?_
    simp only [List.size_toArray, List.length_cons, List.length_nil, Nat.reduceAdd, Nat.zero_add, List.range, List.range.loop]
    refine mvV T (.func (.func 26) #[] #[.pointer (some ⟨K.Wg, 0, none⟩), .pointer (some ⟨vB, 0, none⟩), .pointer (some ⟨K.C, 0, none⟩)]) rfl rfl (by decide) (fun _ => by go_simp <;> rfl) (fun _ => by simp [go_sem]) ?_
    walk_nrm
    refine Goes.stop fun w₁ h₁ => ⟨rfl, _, _, (stepG_spawn (d := wcall 26 #[.pointer (some ⟨K.Wg, 0, none⟩), .pointer (some ⟨vB, 0, none⟩), .pointer (some ⟨K.C, 0, none⟩)]) (w' := w₁) (f := .func 26) (c := #[.pointer (some ⟨K.Wg, 0, none⟩), .pointer (some ⟨vB, 0, none⟩), .pointer (some ⟨K.C, 0, none⟩)]) rfl rfl (by decide) (by simp [go_sem, wcall, Deferred.ofValue]) rfl).trans (by rw [listed_nil (by simp [go_sem])]), fun h0 => ?_, 10, ?_⟩
    · obtain ⟨m, h⟩ := broad_c N V hz ht hs w₁ (E6.rely N h₁)
      rw [hP]
      exact ⟨m, .snd h⟩
    walk_nrm
    refine mvS T rfl (fun _ => stepG_region_end) ?_
    refine mvS T rfl (fun _ => stepG_seq) ?_
    refine mvS T rfl (fun _ => stepG_region) ?_
    simp only [List.size_toArray, List.length_cons, List.length_nil, Nat.reduceAdd, Nat.zero_add, List.range, List.range.loop]
    refine mvV T (.func (.func 27) #[] #[.pointer (some ⟨K.Wg, 0, none⟩), .pointer (some ⟨vN, 0, none⟩), .pointer (some ⟨vB, 0, none⟩), .pointer (some ⟨K.Lb, 0, none⟩)]) rfl rfl (by decide) (fun _ => by go_simp <;> rfl) (fun _ => by simp [go_sem]) ?_
    walk_nrm
    refine Goes.stop fun w₂ h₂ => ⟨rfl, _, _, (stepG_spawn (d := wcall 27 #[.pointer (some ⟨K.Wg, 0, none⟩), .pointer (some ⟨vN, 0, none⟩), .pointer (some ⟨vB, 0, none⟩), .pointer (some ⟨K.Lb, 0, none⟩)]) (w' := w₂) (f := .func 27) (c := #[.pointer (some ⟨K.Wg, 0, none⟩), .pointer (some ⟨vN, 0, none⟩), .pointer (some ⟨vB, 0, none⟩), .pointer (some ⟨K.Lb, 0, none⟩)]) rfl rfl (by decide) (by simp [go_sem, wcall, Deferred.ofValue]) rfl).trans (by rw [listed_nil (by simp [go_sem])]), fun h0 => ?_, 10, ?_⟩
    · obtain ⟨m, h⟩ := recv_c N V Z hz w₂ ⟨(E6.rely N h₁).rely N h₂, h0.trans (congrArg some Z.2.2.2)⟩
      rw [hP]
      exact ⟨m, .nar rfl h⟩
    walk_nrm
    refine mvS T rfl (fun _ => stepG_region_end) ?_
    refine mvS T rfl (fun _ => stepG_seq) ?_
    refine mvS T rfl (fun _ => stepG_region) ?_
    simp only [List.size_toArray, List.length_cons, List.length_nil, Nat.reduceAdd, Nat.zero_add, List.range, List.range.loop]
    refine mvS T rfl (fun w => stepG_callGo w (c := body_wait wlink) rfl rfl (by decide) rfl H.f_wait (nm_wait wlink) rfl) ?_
    simp only [show (waitFn wlink).ntmps = 84 from rfl]
    walk_nrm
    have hlv : WgLive K.ty K.Wg w₂ := by rw [N.ty]; exact ((E6.rely N h₁).rely N h₂).live
    exact Goes.mono (wait_start hP w₂ hlv) (by omega)) htr.own htr.deaf (htr.nor _) g6 l6 hcn hcb
  case hAn =>
    intro g₁ w₁ h
    have hr := wait_round (K := K) (Qe := fun w' => Kept K w6 w' ∧ w'.heap[K.Lb]? = some K.lost) (D := DE (Shn K)) (S := AtEndS K.P (Shn K) Post) hP de0 ?_ g₁ w₁ h
    · rw [← hQ] at hr
      exact hr
    rintro w' ⟨hk, hl⟩
    have hl' := hl
    rw [Z.2.2.1] at hl'
    rw [hP] at hsuf ⊢
    walk_nrm
    refine gwS de0 rfl (fun _ => stepG_region_end) ?_
    refine gwS de0 rfl (fun _ => stepG_seq) ?_
    refine gwS de0 rfl (fun _ => stepG_region) ?_
    simp only [List.size_toArray, List.length_cons, List.length_nil, Nat.reduceAdd, Nat.zero_add, List.range, List.range.loop]
    have hc : ∀ d, (w'.at d).cell? ⟨K.Lb, 0, none⟩ = some (.int .i64 (lostAt t s z 401)) := fun d => by
      show w'.cell? _ = _
      simp [World.cell?, hl']
    refine gwO (.int .i64 (lostAt t s z 401)) rfl rfl (by decide) (fun d => by
      have h := hc d
      go_simp) (fun d e he => by
      have h := hc d
      simp [go_sem, h] at he
      subst he
      refine evS_read ?_
      rintro (⟨x, hx, hb⟩ | ⟨x, _, hx⟩)
      · cases hx; exact N.geo.wl hb.symm
      · cases hx) ?_
    walk_nrm
    refine gwV de0 (.int .i64 (lostAt t s z 401)) rfl rfl (by decide) (fun _ => by go_simp <;> rfl) (fun _ => by simp [go_sem]) ?_
    walk_nrm
    refine gwV de0 (.bool true) rfl rfl (by decide) (fun _ => by go_simp <;> rfl) (fun _ => by simp [go_sem]) ?_
    walk_nrm
    refine gwS de0 rfl (fun _ => stepG_region_end) ?_
    refine gwS de0 rfl (fun _ => stepG_ret') ?_
    refine gwS de0 rfl (fun _ => stepG_leave (fn := Try.f9) (v := .tuple #[.int .i64 (lostAt t s z 401), .bool true]) rfl rfl Try.func9 (by simp [results, Try.f9]) (by simp [results, Try.f9])) ?_
    exact hsuf w' hk hl
set_option maxRecDepth 100000 in
set_option maxHeartbeats 2000000 in
theorem lost_head {Post : Value → World → Prop} {c : Frame} {cs : List Frame} (x y : Nat) (t s : Int) (hx : x < 4294967296) (hy : y < 4294967296) (w : World)
    (hinv : swOk x y t s = false → ∀ w', Below w.heap.size w w' → E Try.prog Post 0 (G (c.finish (.tuple #[.int .i64 0, .bool false])) cs) w')
    (hval : ∀ t' s' : Nat, t = t' → s = s' → FinZ (x, y) → t' ≤ 3 → s' ≤ 4 → ∀ (K : Cst) (w' : World), K.P = Try.prog → w.heap.size ≤ K.Wg → K.Wg < K.H0 → K.H0 ≤ w'.heap.size → Below w.heap.size w w' →
      GoesW Try.prog true (DE (Shn K)) (AtEndS Try.prog (Shn K) Post) (G (c.finish (.tuple #[.int .i64 (lostAt t' s' (x, y) 401), .bool true])) cs) w')
    : E Try.prog Post 0 (G (Frame.enter Try.prog 9 #[swv x y t s] .normal) (c :: cs)) w := by
  rw [enter_at (fn := Try.f9) _ Try.func9 rfl]
  simp only [Try.f9, Option.getD_some, List.size_toArray, List.length_cons, List.length_nil, Nat.reduceAdd, Nat.reduceSub, Array.replicate_succ, Array.replicate_zero, List.push_toArray, List.append_toArray, List.nil_append, List.cons_append]
  repeat (refine eS rfl stepG_seq ?_)
  refine eS rfl stepG_region ?_
  simp only [List.size_toArray, List.length_cons, List.length_nil, Nat.reduceAdd, Nat.zero_add, List.range, List.range.loop]
  refine eV (.pointer (some ⟨w.heap.size, 0, none⟩)) rfl rfl (by decide) (by go_simp <;> rfl) (by simp [go_sem, *]) ?_
  walk_nrm
  refine eV (.int .i64 0) rfl rfl (by decide) (by go_simp <;> rfl) (by simp [go_sem, *]) ?_
  walk_nrm
  refine eV (.bool false) rfl rfl (by decide) (by go_simp <;> rfl) (by simp [go_sem, *]) ?_
  walk_nrm
  refine eS rfl stepG_region_end ?_
  have hC : (w.alloc (.cells #[.complex .f32 x y, .int .i64 t, .int .i64 s] 25)).heap[w.heap.size]? = some (.cells #[.complex .f32 x y, .int .i64 t, .int .i64 s] 25) := heap_alloc_new w _
  have hb1 : Below w.heap.size w (w.alloc (.cells #[.complex .f32 x y, .int .i64 t, .int .i64 s] 25)) := by repeat' (first | (with_reducible exact Below.refl _ _) | (with_reducible assumption) | (with_reducible refine Below.alloc ?_ ?_ _) | (with_reducible refine below_more ?_ ?_ _ _) | (with_reducible refine below_rd ?_ ?_ _ _) | (with_reducible refine Below.drew ?_) | (with_reducible refine Below.setCell ?_ ?_ _) | go_size)
  have hs1 : (w.alloc (.cells #[.complex .f32 x y, .int .i64 t, .int .i64 s] 25)).heap.size = w.heap.size + 1 := by simp
  generalize w.alloc (.cells #[.complex .f32 x y, .int .i64 t, .int .i64 s] 25) = w1 at hC hb1 hs1 ⊢
  have h0 : w1.cell? ⟨w.heap.size, 0, none⟩ = some (.complex .f32 x y) := by simp [World.cell?, hC]
  have h1 : w1.cell? ⟨w.heap.size, 1, none⟩ = some (.int .i64 t) := by simp [World.cell?, hC]
  have h2 : w1.cell? ⟨w.heap.size, 2, none⟩ = some (.int .i64 s) := by simp [World.cell?, hC]
  repeat (refine eS rfl stepG_seq ?_)
  refine eS rfl stepG_region ?_
  simp only [List.size_toArray, List.length_cons, List.length_nil, Nat.reduceAdd, Nat.zero_add, List.range, List.range.loop]
  refine eV (swv x y t s) rfl rfl (by decide) (by go_simp <;> rfl) (by
    intro e he
    simp [go_sem, h0, h1, h2] at he
    rcases he with rfl | rfl | rfl <;> exact nom_cell) ?_
  walk_nrm
  refine eCall (f := 15) (args := #[swv x y t s]) sok rfl rfl (by decide) rfl (by simp [Act.eval]) (by decide) (by intro v hv; simp at hv; subst hv; exact y0_swv) (yHeap_now w1) (swingValid_any x y t s w1) (fun e w' h => ⟨_, h.1⟩) ?_
  rintro v w2 ⟨hv, hb2⟩
  obtain rfl : v = .bool (swOk x y t s) := by injection hv
  walk_nrm
  refine eV (.bool (!swOk x y t s)) rfl rfl (by decide) (by go_simp <;> rfl) (by simp [go_sem, *]) ?_
  walk_nrm
  refine eS rfl stepG_region_end ?_
  have hC2 := (hb2.block _ (by omega)).trans hC
  have hb3 : Below w.heap.size w w2 := hb1.trans (hb2.mono (by omega))
  have hs2 := hb2.size
  clear h0 h1 h2 hC hb1
  rcases Bool.eq_false_or_eq_true (swOk x y t s) with hok | hok
  · rw [hok]
    simp only [Bool.not_true]
    refine eS rfl (stepG_cond (t := false) rfl) ?_
    simp only [Bool.false_eq_true, if_false]
    refine eS rfl stepG_skip ?_
    repeat (refine eS rfl stepG_seq ?_)
    refine E.step rfl stepG_region_draw (by simp) ?_
    simp only [Region.schedule, mixed9, Bool.true_or, if_true]
    refine r3_any (sv := swv x y t s) (C := w.heap.size) (W := w2) (by decide) (by intro L0 L1 L2 L3 L4 L5; cases L0 <;> cases L1 <;> cases L2 <;> cases L3 <;> cases L4 <;> cases L5 <;> decide +kernel)
      (by intro L0 L1 L2 L3 L4 L5; cases L0 <;> cases L1 <;> cases L2 <;> cases L3 <;> cases L4 <;> cases L5 <;> decide +kernel) ⟨rfl, rfl, rfl, rfl, rfl, rfl⟩ ⟨rfl, rfl, rfl, rfl, rfl, rfl⟩
      (fun a w => by have h := mk44 w; go_simp <;> rfl) (fun a w => by have h := mk44e w; simp [go_sem, h]) (fun a w => by have h := mk45 w; go_simp <;> rfl) (fun a w => by have h := mk45e w; simp [go_sem, h])
      (fun a w => by go_simp <;> rfl) (fun a w => by simp [go_sem]) (fun a w => by go_simp <;> rfl) (fun a w => by simp [go_sem]) ?_ ?_ ?_ _ _
    · rintro v11 v12 v4 v5 w n m rfl rfl ⟨u, hu⟩
      have hc : w.cell? ⟨m, 0, none⟩ = some u := by simp [World.cell?, hu]
      have hfz : w.frozen? ⟨m, 0, none⟩ = false := by simp [World.frozen?, hu]
      refine ⟨by simp only [T9]; go_simp, ?_⟩
      intro e he
      simp [T9, go_sem, hc, hfz] at he
      subst he
      exact nom_cell
    · rintro v11 v12 v4 v5 w n m rfl rfl ⟨u, hu⟩
      have hc : w.cell? ⟨m, 0, none⟩ = some u := by simp [World.cell?, hu]
      have hfz : w.frozen? ⟨m, 0, none⟩ = false := by simp [World.frozen?, hu]
      refine ⟨by simp only [T9]; go_simp, ?_⟩
      intro e he
      simp [T9, go_sem, hc, hfz] at he
      subst he
      exact nom_cell
    · intro n0 n1 m0 m1 w3 hF
      obtain ⟨hz, t', s', rfl, rfl, ht, hs⟩ := swOk_get (z := (x, y)) hx hy hok
      simp only [T9]
      refine eS rfl stepG_region_end ?_
      repeat (refine eS rfl stepG_seq ?_)
      refine eS rfl stepG_region ?_
      simp only [List.size_toArray, List.length_cons, List.length_nil, Nat.reduceAdd, Nat.zero_add, List.range, List.range.loop]
      refine eV (.pointer (some ⟨w3.heap.size, 0, none⟩)) rfl rfl (by decide) (by go_simp <;> rfl) (by simp [go_sem]) ?_
      walk_nrm
      have hc : (w3.alloc (.cells #[.int .i64 0] 3)).cell? ⟨w3.heap.size, 0, none⟩ = some (.int .i64 0) := by have h := heap_alloc_new w3 (.cells #[.int .i64 0] 3); unfold World.cell?; rw [h]; rfl
      have hfz : (w3.alloc (.cells #[.int .i64 0] 3)).frozen? ⟨w3.heap.size, 0, none⟩ = false := by have h := heap_alloc_new w3 (.cells #[.int .i64 0] 3); unfold World.frozen?; rw [h]; rfl
      refine eN (w' := (w3.alloc (.cells #[.int .i64 0] 3)).setCell ⟨w3.heap.size, 0, none⟩ (.int .i64 (-1))) rfl rfl (by decide) (by go_simp) (by
        intro e he
        simp [go_sem, hc, hfz] at he
        subst he
        exact nom_cell) ?_
      walk_nrm
      refine eS rfl stepG_region_end ?_
      have o4 : ∀ b, b < w3.heap.size → ((w3.alloc (.cells #[.int .i64 0] 3)).setCell ⟨w3.heap.size, 0, none⟩ (.int .i64 (-1))).heap[b]? = w3.heap[b]? := fun b hb => (set_other (by omega) rfl).trans (Below.heap_alloc _ _ _ hb)
      have l4 : ((w3.alloc (.cells #[.int .i64 0] 3)).setCell ⟨w3.heap.size, 0, none⟩ (.int .i64 (-1))).heap[w3.heap.size]? = some (.cells #[.int .i64 (-1)] 3) := set_self (heap_alloc_new w3 _)
      have z4 : ((w3.alloc (.cells #[.int .i64 0] 3)).setCell ⟨w3.heap.size, 0, none⟩ (.int .i64 (-1))).heap.size = w3.heap.size + 1 := by simp [World.setCell]
      have p4 : ((w3.alloc (.cells #[.int .i64 0] 3)).setCell ⟨w3.heap.size, 0, none⟩ (.int .i64 (-1))).os = w3.os ∧ ((w3.alloc (.cells #[.int .i64 0] 3)).setCell ⟨w3.heap.size, 0, none⟩ (.int .i64 (-1))).tape = w3.tape ∧ ((w3.alloc (.cells #[.int .i64 0] 3)).setCell ⟨w3.heap.size, 0, none⟩ (.int .i64 (-1))).output = w3.output := ⟨rfl, rfl, rfl⟩
      clear hc hfz
      generalize (w3.alloc (.cells #[.int .i64 0] 3)).setCell ⟨w3.heap.size, 0, none⟩ (.int .i64 (-1)) = w4 at o4 l4 z4 p4 ⊢
      repeat (refine eS rfl stepG_seq ?_)
      refine eS rfl stepG_region ?_
      simp only [List.size_toArray, List.length_cons, List.length_nil, Nat.reduceAdd, Nat.zero_add, List.range, List.range.loop]
      refine eV (.pointer (some ⟨w4.heap.size, 0, none⟩)) rfl rfl (by decide) (by go_simp <;> rfl) (by simp [go_sem]) ?_
      walk_nrm
      refine eS rfl stepG_region_end ?_
      have o5 : ∀ b, b < w4.heap.size → (w4.alloc (.cells #[.int .u64 0, .int .u32 0] 55)).heap[b]? = w4.heap[b]? := fun b hb => Below.heap_alloc _ _ _ hb
      have g5 : WgAt wlink.tWg w4.heap.size (w4.alloc (.cells #[.int .u64 0, .int .u32 0] 55)) 0 0 := heap_alloc_new w4 _
      have z5 : (w4.alloc (.cells #[.int .u64 0, .int .u32 0] 55)).heap.size = w4.heap.size + 1 := by simp
      have p5 : (w4.alloc (.cells #[.int .u64 0, .int .u32 0] 55)).os = w4.os ∧ (w4.alloc (.cells #[.int .u64 0, .int .u32 0] 55)).tape = w4.tape ∧ (w4.alloc (.cells #[.int .u64 0, .int .u32 0] 55)).output = w4.output := ⟨rfl, rfl, rfl⟩
      generalize w4.alloc (.cells #[.int .u64 0, .int .u32 0] 55) = w5 at o5 g5 z5 p5 ⊢
      repeat (refine eS rfl stepG_seq ?_)
      refine eS rfl stepG_region ?_
      simp only [List.size_toArray, List.length_cons, List.length_nil, Nat.reduceAdd, Nat.zero_add, List.range, List.range.loop]
      refine eS rfl (stepG_callGo w5 (c := body_add wlink) rfl rfl (by decide) rfl wlib.f_add (nm_add wlink) rfl) ?_
      simp only [show (addFn wlink).ntmps = 117 from rfl]
      walk_nrm
      refine E.goes (add3 w5 g5 goStop) ?_
      intro g1 w1' h1
      refine E.disable h1 fun g2 w2' h2 => E.goes h2 fun g3 w3' h3 => E.enable h3 fun g4 w4' h4 => E.goes h4 ?_
      rintro g5' w5' ⟨rfl, dd, rfl⟩
      have q6 : WgAt wlink.tWg w4.heap.size (World.at (w5.setCell (stA w4.heap.size) (.int .u64 (3 * KK))) dd) (3 * KK) 0 := g5.setSt (3 * KK)
      have o6 : ∀ b, b ≠ w4.heap.size → (World.at (w5.setCell (stA w4.heap.size) (.int .u64 (3 * KK))) dd).heap[b]? = w5.heap[b]? := fun b hb => set_other hb rfl
      have z6 : (World.at (w5.setCell (stA w4.heap.size) (.int .u64 (3 * KK))) dd).heap.size = w5.heap.size := by simp [World.setCell, World.at]
      have p6 : (World.at (w5.setCell (stA w4.heap.size) (.int .u64 (3 * KK))) dd).os = w5.os ∧ (World.at (w5.setCell (stA w4.heap.size) (.int .u64 (3 * KK))) dd).tape = w5.tape ∧ (World.at (w5.setCell (stA w4.heap.size) (.int .u64 (3 * KK))) dd).output = w5.output := ⟨rfl, rfl, rfl⟩
      generalize World.at (w5.setCell (stA w4.heap.size) (.int .u64 (3 * KK))) dd = w6 at q6 o6 z6 p6 ⊢
      clear g5 h1 h2 h3 h4
      walk_nrm
      refine eS rfl stepG_region_end ?_
      -- the numbers
      have k0 := hF.c0 n0 rfl
      have k1 := hF.c1 n1 rfl
      have k2 := hF.c2 m0 rfl
      have k3 := hF.c3 m1 rfl
      simp only [if_true, ch] at k2 k3
      have t0 := lt_get k0.2
      have t1 := lt_get k1.2
      have t2 := lt_get k2.2
      have t3 := lt_get k3.2
      have hnn := hF.d01 n0 n1 rfl rfl
      have d02 : m0 ≠ n0 := by rintro rfl; have := k2.2.symm.trans k0.2; simp at this
      have d12 : m0 ≠ n1 := by rintro rfl; have := k2.2.symm.trans k1.2; simp at this
      have d03 : m1 ≠ n0 := by rintro rfl; have := k3.2.symm.trans k0.2; simp at this
      have d13 : m1 ≠ n1 := by rintro rfl; have := k3.2.symm.trans k1.2; simp at this
      have b6 : ∀ b, b < w3.heap.size → w6.heap[b]? = w3.heap[b]? := fun b hb => ((o6 b (by omega)).trans (o5 b (by omega))).trans (o4 b hb)
      have hsz := hF.sz
      refine lost_go (K := Kof x y t' s' w.heap.size w3.heap.size w4.heap.size n0 n1) (vN := m0) (vB := m1) (z := (x, y)) (t := t') (s := s')
        ⟨⟨by simp only [Kof]; omega, by simp only [Kof]; omega, by simp only [Kof]; omega, by simp only [Kof]; omega, by simp only [Kof]; omega, by simp only [Kof]; omega, by simp only [Kof]; omega, by simp only [Kof]; omega, by simp only [Kof]; omega, by simp only [Kof]; omega, by simp only [Kof]; omega, by simp only [Kof]; omega, by simp only [Kof]; omega, by simp only [Kof]; omega, by simp only [Kof]; omega, by simp only [Kof]; decide⟩,
          rfl, rfl, rfl, rfl, by simp only [Kof]; omega, by simp only [Kof]; omega, by simp only [Kof]; omega, by simp only [Kof]; omega, by simp only [Kof]; omega, by simp only [Kof]; omega, by simp only [Kof]; omega, by simp only [Kof]; omega, by simp only [Kof]; omega, by simp only [Kof]; omega⟩
        ⟨rfl, rfl, rfl⟩ ⟨rfl, rfl, rfl, rfl⟩ hz ht hs w6 ⟨by simp only [Kof]; omega, ⟨_, _, q6⟩, (b6 _ (by simp only [Kof]; omega)).trans ((hF.old _ (by simp only [Kof]; omega)).trans hC2), (b6 _ t2).trans k2.2, (b6 _ t3).trans k3.2⟩ q6
        ((o6 _ (by simp only [Kof]; omega)).trans ((o5 _ (by simp only [Kof]; omega)).trans l4)) ⟨_, _, _, (b6 _ t0).trans k0.2⟩ ⟨_, _, _, (b6 _ t1).trans k1.2⟩ c cs _ _ _ _ _ _ _ _ _ _ _ _ _ _ ?_
      intro w' hk hl
      have hsz6 := hk.size
      refine hval t' s' rfl rfl hz ht hs _ w' rfl (by simp only [Kof]; omega) (by simp only [Kof]; omega) (by simp only [Kof]; omega) ⟨(hk.out.2.1.trans (p6.1.trans (p5.1.trans p4.1))).trans (hF.out.1.trans hb3.os), (hk.out.1.trans (p6.2.1.trans (p5.2.1.trans p4.2.1))).trans (hF.out.2.1.trans hb3.tape), (hk.out.2.2.trans (p6.2.2.trans (p5.2.2.trans p4.2.2))).trans (hF.out.2.2.trans hb3.output), by have := hb3.size; omega, fun b hb => ?_⟩
      have e1 := hk.old b (by simp only [Kof]; omega) (by simp only [Kof]; omega) (by simp only [Kof]; omega) (by simp only [Kof]; omega) (by simp only [Kof]; omega)
      exact (e1.trans (b6 b (by omega))).trans ((hF.old b (by omega)).trans (hb3.block b hb))
  · rw [hok]
    simp only [Bool.not_false]
    repeat (refine eS rfl stepG_seq ?_)
    refine eS rfl (stepG_cond (t := true) rfl) ?_
    simp only [if_true]
    repeat (refine eS rfl stepG_seq ?_)
    refine eS rfl stepG_region ?_
    simp only [List.size_toArray, List.length_cons, List.length_nil, Nat.reduceAdd, Nat.zero_add, List.range, List.range.loop]
    refine eV (.int .i64 0) rfl rfl (by decide) (by go_simp <;> rfl) (by simp [go_sem, *]) ?_
    walk_nrm
    refine eV (.bool false) rfl rfl (by decide) (by go_simp <;> rfl) (by simp [go_sem, *]) ?_
    walk_nrm
    refine eS rfl stepG_region_end ?_
    refine eS rfl stepG_ret' ?_
    refine eS rfl (stepG_leave (fn := Try.f9) (v := .tuple #[.int .i64 0, .bool false]) rfl rfl Try.func9 (by simp [results, Try.f9]) (by simp [results, Try.f9])) ?_
    exact hinv hok w2 hb3
end Go.Proofs.Ytmoajpkgdimdaaa
