/- The receiver. -/
import Derived.Test.YtmoajpkgdimdaaaWrkB
set_option linter.unusedSectionVars false
set_option linter.unusedVariables false
set_option linter.unusedSimpArgs false
namespace Go.Proofs.Ytmoajpkgdimdaaa
open Go.Conc Go.ConcN Go.RowKit Go.Conc.Lib Go.ConcR.Gen
open Go.ConcR (KK wgBlock WgAt stA smA rd wr mk Payload)

/-- Both widths differ behind i steps. -/
def difB (t s : Nat) (z : Z2) (i : Nat) : Bool := !((FloatKind.f64.format.order (to64 (nmZ t s z i).1) (nmW t s (toW z) i).1 == some .eq) && (FloatKind.f64.format.order (to64 (nmZ t s z i).2) (nmW t s (toW z) i).2 == some .eq))
/-- What is known behind i pairs. -/
def lostAt (t s : Nat) (z : Z2) : Nat → Int
  | 0 => -1
  | i + 1 => if difB t s z i && decide (lostAt t s z i < 0) then i else lostAt t s z i
/-- The pairs that are still to come. -/
def valR (t s : Nat) (z : Z2) : Nat → Nat → List (Value × Value)
  | _, 0 => []
  | i, m + 1 => (zv (nmZ t s z i), wv (nmW t s (toW z) i)) :: valR t s z (i + 1) m
theorem valR_fst (t s : Nat) (z : Z2) : ∀ m i, (valR t s z i m).map Prod.fst = valN t s z i m
  | 0, _ => rfl
  | m + 1, i => by simp only [valR, valN, List.map_cons, valR_fst t s z m (i + 1)]
theorem valR_snd (t s : Nat) (z : Z2) : ∀ m i, (valR t s z i m).map Prod.snd = valB t s (toW z) i m
  | 0, _ => rfl
  | m + 1, i => by simp only [valR, valB, List.map_cons, valR_snd t s z m (i + 1)]
section
variable {P : Program} {main : Bool} {R : World → World → Prop} {D : World → World → Array Event → Prop} {S : Goroutine → World → Prop} {n : Nat} {g g' : Goroutine} {w : World}
/-- A step that turns the world. -/
theorem mvW (hs : g.status = .running) (h : ∀ w₁, R w w₁ → ∃ g' w' es, stepG P main g w₁ = .go g' w' es ∧ D w₁ w' es ∧ Goes P main R D S n g' w') : Goes P main R D S (n + 1) g w :=
  Goes.step hs fun w₁ h₁ => by
    obtain ⟨g', w', es, e, d, k⟩ := h w₁ h₁
    rw [e]
    exact ⟨d, k⟩
end

section
variable {K : Cst} {vN vB g : Nat} {z : Z2} {t s : Nat} {w w₁ : World}
theorem loud27 : (Try.prog.funcs[(baseD 27).fn]?).any (·.norace) = false := by kernel_rfl
def Zer (K : Cst) (z : Z2) (t s : Nat) : Prop := K.zN = .complex .f32 0 0 ∧ K.zB = .complex .f64 0 0 ∧ K.lost = .cells #[.int .i64 (lostAt t s z 401)] 3 ∧ K.lost0 = .cells #[.int .i64 (-1)] 3
structure RF (K : Cst) (vN vB : Nat) (z : Z2) (t s i : Nat) (w : World) : Prop where
  env : Env K vN vB z t s w
  lb : w.heap[K.Lb]? = some (.cells #[.int .i64 (lostAt t s z i)] 3)
theorem RF.rely {i : Nat} (N : Nums K vN vB) (h : RF K vN vB z t s i w) (r : Rly K 3 w w₁) : RF K vN vB z t s i w₁ := ⟨h.env.rely N r, (r.old _ N.geo.lb (Ne.symm N.geo.wl) N.geo.ln N.geo.lB fun _ => rfl).trans h.lb⟩
theorem RF.cell {i : Nat} (h : RF K vN vB z t s i w) : w.cell? ⟨K.Lb, 0, none⟩ = some (.int .i64 (lostAt t s z i)) := by simp [World.cell?, h.lb]
theorem RF.thaw {i : Nat} (h : RF K vN vB z t s i w) : w.frozen? ⟨K.Lb, 0, none⟩ = false := by simp [World.frozen?, h.lb]
theorem evK_lost {wr : Bool} : EvK K 3 w ⟨.cell ⟨K.Lb, 0, none⟩, wr, false⟩ := by
  refine ⟨by simp, by simp, by simp, fun x hx => ?_⟩
  have hx' : some (⟨.cell ⟨K.Lb, 0, none⟩, wr, .plain⟩ : Touch) = some x := hx
  cases hx'
  exact .inr (.inr ⟨by simp, _, rfl, .inr (.inr ⟨rfl, rfl⟩)⟩)
theorem RF.set {i : Nat} (N : Nums K vN vB) (h : RF K vN vB z t s i w) (hi : lostAt t s z (i + 1) = i) : RF K vN vB z t s (i + 1) (w.setCell ⟨K.Lb, 0, none⟩ (.int .i64 i)) ∧ Gua K 3 w (w.setCell ⟨K.Lb, 0, none⟩ (.int .i64 i)) #[⟨.cell ⟨K.Lb, 0, none⟩, true, false⟩] := by
  have e := fun q => setCell_heap (i := 0) h.lb (.int .i64 i) q
  have G := N.geo
  have ho : ∀ b, b ≠ K.Lb → (w.setCell ⟨K.Lb, 0, none⟩ (.int .i64 i)).heap[b]? = w.heap[b]? := fun b hb => by rw [e, if_neg hb]
  refine ⟨⟨⟨by rw [setCell_size]; exact h.env.sz, ?_, (ho _ G.cl).trans h.env.sw, (ho _ N.nl).trans h.env.nar, (ho _ N.bl).trans h.env.bro⟩, ?_⟩, ?_⟩
  · obtain ⟨st, sm, hw⟩ := h.env.live
    exact ⟨st, sm, hw.of_block (ho _ G.wl)⟩
  · rw [e, if_pos rfl, hi]; rfl
  · have := G.lb
    exact ⟨⟨rfl, rfl, rfl⟩, by rw [setCell_size]; exact Nat.le_refl _, fun b hb hn => ho b fun e => hn e rfl, fun b cs hb hx => (ho b (by omega)).trans hx, fun b cs hb hx => ⟨cs, (ho b (by omega)).trans hx, fun _ => rfl⟩, fun e he => by simp at he; subst he; exact evK_lost⟩
noncomputable def body27 : Code := Try.f27.body.getD .skip
noncomputable def L27 : Code := match body27 with | .seq _ (.seq _ (.seq _ (.block _ (.loop c)))) => c | _ => .skip
abbrev dR (K : Cst) : List Deferred := [dcall 24 #[.pointer (some ⟨K.Wg, 0, none⟩)]]
noncomputable def headR (K : Cst) (vN vB i : Nat) (u5 u7 u8 u9 u10 u11 u12 u13 u14 u15 u16 u17 u18 u19 u20 u21 : Value) : Goroutine :=
  G ((baseD 27).at ⟨#[.pointer (some ⟨K.Wg, 0, none⟩), .pointer (some ⟨vN, 0, none⟩), .pointer (some ⟨vB, 0, none⟩), .pointer (some ⟨K.Lb, 0, none⟩), .int .i64 i, u5, .chan (some K.cN), u7, u8, u9, u10, u11, u12, u13, u14, u15, u16, u17, u18, u19, u20, u21], dR K⟩ [.code L27, .inLoop L27, .inBlock 0]) [bot]
theorem run_rcvN (hz : K.zN = .complex .f32 0 0) (ρ : Operand → Value) {o : Oper} {x : Operand} (ho : o.op = .recv 44 x true) (hx : ρ x = .chan (some K.cN)) (w : World) : (execOp ρ o).run Try.prog w = .ok (.comm #[rcase K.cN K.zN] true (.recv true)) w := by
  unfold execOp
  simp [ho, hx, run_underlying Try.underlying44, Try.zeroValue23, hz, rcase]
theorem ev_rcvN (ρ : Operand → Value) {o : Oper} {x : Operand} (ho : o.op = .recv 44 x true) (w : World) : (execOp ρ o).events Try.prog w #[] = #[] := by
  unfold execOp
  simp [ho, run_underlying Try.underlying44, Try.zeroValue23]
theorem run_rcvB (hz : K.zB = .complex .f64 0 0) (ρ : Operand → Value) {o : Oper} {x : Operand} (ho : o.op = .recv 45 x false) (hx : ρ x = .chan (some K.cB)) (w : World) : (execOp ρ o).run Try.prog w = .ok (.comm #[rcase K.cB K.zB] true (.recv false)) w := by
  unfold execOp
  simp [ho, hx, run_underlying Try.underlying45, Try.zeroValue28, hz, rcase]
theorem ev_rcvB (ρ : Operand → Value) {o : Oper} {x : Operand} (ho : o.op = .recv 45 x false) (w : World) : (execOp ρ o).events Try.prog w #[] = #[] := by
  unfold execOp
  simp [ho, run_underlying Try.underlying45, Try.zeroValue28]

set_option maxRecDepth 100000 in
set_option maxHeartbeats 2000000 in
/-- From the loop's head. -/
theorem rFrom (N : Nums K vN vB) (V : Vals K z t s) (Z : Zer K z t s) (hz : FinZ z) : ∀ (m i : Nat), i + m = 401 → ∀ (u5 u7 u8 u9 u10 u11 u12 u13 u14 u15 u16 u17 u18 u19 u20 u21 : Value) (w : World), RF K vN vB z t s i w →
    Goes Try.prog false (Rly K 3) (Gua K 3) (AtRn K (valR t s z i m)) 3 (headR K vN vB i u5 u7 u8 u9 u10 u11 u12 u13 u14 u15 u16 u17 u18 u19 u20 u21) w := by
  have T := terms K 3
  intro m
  induction m with
  | zero =>
    intro i hi
    obtain rfl : i = 401 := by omega
    intro u5 u7 u8 u9 u10 u11 u12 u13 u14 u15 u16 u17 u18 u19 u20 u21 w hF
    simp only [headR, L27, body27, Try.f27, Option.getD_some]
    refine mvS T rfl (fun _ => stepG_seq) ?_
    refine mvS T rfl (fun _ => stepG_region) ?_
    simp only [List.size_toArray, List.length_cons, List.length_nil, Nat.reduceAdd, Nat.zero_add, List.range, List.range.loop]
    obtain ⟨no, ho⟩ := out_c (k := 3) N V (.inr (.inr rfl)) (f := 27) #[.pointer (some ⟨K.Wg, 0, none⟩), .pointer (some ⟨vN, 0, none⟩), .pointer (some ⟨vB, 0, none⟩), .pointer (some ⟨K.Lb, 0, none⟩), .int .i64 ((401 : Nat) : Int), u5, .chan (some K.cN), .tuple #[K.zN, .bool false], .bool false, u9, u10, u11, u12, u13, u14, u15, u16, u17, u18, u19, u20, u21] Try.func27 rfl (Qw := fun w => RF K vN vB z t s 401 w) (fun _ _ h r => h.rely N r) (fun _ h => h.env) (fun _ h _ => by rw [Z.2.2.1]; exact h.lb)
    refine Goes.stop fun w₁ h₁ => ⟨rfl, _, _, ⟨rfl, rfl, rfl⟩, by rw [N.prog]; exact stepG_comm rfl rfl (by decide) (run_rcvN Z.1 _ rfl rfl _), ?_, no + 6, ?_⟩
    · rw [listed_nil (ev_rcvN _ rfl _)]; simp
    · have hF₁ := hF.rely N h₁
      rw [served_G, N.prog]
      walk_nrm
      simp only [recvd, if_true]
      refine mvV T (.bool false) rfl rfl (by decide) (fun _ => by go_simp) (fun _ => by simp [go_sem]) ?_
      walk_nrm
      refine mvS T rfl (fun _ => stepG_region_end) ?_
      refine mvS T rfl (fun _ => stepG_seq) ?_
      refine mvS T rfl (fun _ => stepG_cond (t := false) rfl) ?_
      simp only [Bool.false_eq_true, if_false]
      refine mvS T rfl (fun _ => stepG_exit rfl) ?_
      refine mvS T rfl (fun _ => stepG_end) ?_
      rw [N.prog] at ho
      exact ho _ hF₁
  | succ m ih =>
    intro i hi
    have IH := ih (i + 1) (by omega)
    intro u5 u7 u8 u9 u10 u11 u12 u13 u14 u15 u16 u17 u18 u19 u20 u21 w hF
    have hw64 : IntKind.i64.wrap ((i : Int) + 1) = ((i + 1 : Nat) : Int) := by rw [IntKind.wrap_i64]; omega
    have hfz := nmZ_fin (t := t) (s := s) hz i
    have r0 := fun w => run_to128 w hfz.1.nn hfz.2.nn
    have e0 := ev_to128
    have e1 := fun w es => ev_complexNeq (P := Try.prog) (w := w) (es := es) 28 .f64 (to64 (nmZ t s z i).1) (to64 (nmZ t s z i).2) (nmW t s (toW z) i).1 (nmW t s (toW z) i).2
    have hdif : difB t s z i = !((FloatKind.f64.format.order (to64 (nmZ t s z i).1) (nmW t s (toW z) i).1 == some .eq) && (FloatKind.f64.format.order (to64 (nmZ t s z i).2) (nmW t s (toW z) i).2 == some .eq)) := rfl
    generalize hW : to64 (nmZ t s z i).1 = x1 at r0 e1 hdif
    generalize hW2 : to64 (nmZ t s z i).2 = x2 at r0 e1 hdif
    simp only [headR, L27, body27, Try.f27, Option.getD_some] at IH ⊢
    refine mvS T rfl (fun _ => stepG_seq) ?_
    refine mvS T rfl (fun _ => stepG_region) ?_
    simp only [List.size_toArray, List.length_cons, List.length_nil, Nat.reduceAdd, Nat.zero_add, List.range, List.range.loop]
    refine Goes.stop fun w₁ h₁ => ⟨rfl, _, _, ⟨rfl, rfl, rfl⟩, by rw [N.prog]; exact stepG_comm rfl rfl (by decide) (run_rcvN Z.1 _ rfl rfl _), ?_, 30, ?_⟩
    · rw [listed_nil (ev_rcvN _ rfl _)]; simp
    · have hF₁ := hF.rely N h₁
      rw [served_G, N.prog]
      walk_nrm
      simp only [recvd, if_true]
      refine mvV T (.bool true) rfl rfl (by decide) (fun _ => by go_simp) (fun _ => by simp [go_sem]) ?_
      walk_nrm
      refine mvS T rfl (fun _ => stepG_region_end) ?_
      refine mvS T rfl (fun _ => stepG_seq) ?_
      refine mvS T rfl (fun _ => stepG_cond (t := true) rfl) ?_
      simp only [if_true]
      refine mvS T rfl (fun _ => stepG_skip) ?_
      refine mvS T rfl (fun _ => stepG_block) ?_
      refine mvS T rfl (fun _ => stepG_seq) ?_
      refine mvS T rfl (fun _ => stepG_region) ?_
      simp only [List.size_toArray, List.length_cons, List.length_nil, Nat.reduceAdd, Nat.zero_add, List.range, List.range.loop]
      refine mvV T (zv (nmZ t s z i)) rfl rfl (by decide) (fun _ => by go_simp) (fun _ => by simp [go_sem]) ?_
      walk_nrm
      refine mvV T (zv (nmZ t s z i)) rfl rfl (by decide) (fun _ => by go_simp) (fun _ => by simp [go_sem]) ?_
      walk_nrm
      refine mvS T rfl (fun _ => stepG_region_end) ?_
      refine mvS T rfl (fun _ => stepG_seq) ?_
      refine mvS T rfl (fun _ => stepG_seq) ?_
      refine mvS T rfl (fun _ => stepG_region) ?_
      simp only [List.size_toArray, List.length_cons, List.length_nil, Nat.reduceAdd, Nat.zero_add, List.range, List.range.loop]
      refine mvV T (zv (nmZ t s z i)) rfl rfl (by decide) (fun _ => by go_simp) (fun _ => by simp [go_sem]) ?_
      walk_nrm
      refine mvV T (.complex .f64 x1 x2) rfl rfl (by decide) (fun _ => by go_simp) (fun _ => by simp [go_sem, e0]) ?_
      walk_nrm
      refine mvOp T (.chan (some K.cB)) rfl rfl (by decide) (fun w₂ h₂ => by
        have hc := (hF₁.rely N h₂).env.cB
        go_simp) (fun w₂ h₂ => Gua.reads (by
        have hc := (hF₁.rely N h₂).env.cB
        intro e he
        have hm := mem_listed he
        simp [go_sem, hc] at hm
        subst hm
        exact evK_read (Env.roB N))) ?_
      walk_nrm
      refine Goes.stop fun w₂ h₂ => ⟨rfl, _, _, ⟨rfl, rfl, rfl⟩, by rw [N.prog]; exact stepG_comm rfl rfl (by decide) (run_rcvB Z.2.1 _ rfl rfl _), ?_, 30, ?_⟩
      · rw [listed_nil (ev_rcvB _ rfl _)]; simp
      · have hF₂ := hF₁.rely N h₂
        clear hF hF₁ h₁ h₂
        rw [served_G, N.prog]
        walk_nrm
        simp only [recvd, Bool.false_eq_true, if_false]
        refine mvV T (.bool (difB t s z i)) rfl rfl (by decide) (fun _ => by rw [hdif]; go_simp) (fun _ => by simp [go_sem, e1]) ?_
        walk_nrm
        refine mvV T (.bool (difB t s z i)) rfl rfl (by decide) (fun _ => by go_simp) (fun _ => by simp [go_sem]) ?_
        walk_nrm
        clear hdif
        rcases Bool.eq_false_or_eq_true (difB t s z i) with hd | hd
        · rw [hd]
          refine mvOp T (.int .i64 (lostAt t s z i)) rfl rfl (by decide) (fun w₃ h₃ => by
            have hc := (hF₂.rely N h₃).cell
            go_simp) (fun w₃ h₃ => Gua.reads (by
            have hc := (hF₂.rely N h₃).cell
            intro e he
            have hm := mem_listed he
            simp [go_sem, hc] at hm
            subst hm
            exact evK_lost)) ?_
          walk_nrm
          by_cases hl : lostAt t s z i < 0
          · have hl' : decide (lostAt t s z i < 0) = true := decide_eq_true hl
            have hnew : lostAt t s z (i + 1) = i := by simp [lostAt, hd, hl]
            refine mvV T (.bool true) rfl rfl (by decide) (fun _ => by go_simp) (fun _ => by simp [go_sem]) ?_
            walk_nrm
            refine mvV T (.bool true) rfl rfl (by decide) (fun _ => by go_simp) (fun _ => by simp [go_sem]) ?_
            walk_nrm
            refine mvS T rfl (fun _ => stepG_region_end) ?_
            refine mvS T rfl (fun _ => stepG_cond (t := true) rfl) ?_
            simp only [if_true]
            refine mvS T rfl (fun _ => stepG_region) ?_
            simp only [List.size_toArray, List.length_cons, List.length_nil, Nat.reduceAdd, Nat.zero_add, List.range, List.range.loop]
            refine mvV T (.int .i64 (i : Int)) rfl rfl (by decide) (fun _ => by go_simp) (fun _ => by simp [go_sem]) ?_
            walk_nrm
            refine mvW rfl fun w₃ h₃ => ?_
            have hF₃ := hF₂.rely N h₃
            have hc := hF₃.cell
            have hf := hF₃.thaw
            obtain ⟨hF₄, hg⟩ := hF₃.set N hnew
            refine ⟨_, _, _, stepG_none (w' := w₃.setCell ⟨K.Lb, 0, none⟩ (.int .i64 i)) rfl rfl (by decide) (by go_simp), ?_, ?_⟩
            · refine Eq.mpr (congrArg (Gua K 3 w₃ _) ?_) hg
              unfold listed
              rw [show Sem.events _ _ _ _ = #[(⟨.cell ⟨K.Lb, 0, none⟩, true, false⟩ : Event)] from by unfold execOp; simp [go_sem, storedEv, hc, hf]]
              exact seen_eq loud27 (by simp)
            walk_nrm
            refine mvS T rfl (fun _ => stepG_region_end) ?_
            refine mvS T rfl (fun _ => stepG_region) ?_
            simp only [List.size_toArray, List.length_cons, List.length_nil, Nat.reduceAdd, Nat.zero_add, List.range, List.range.loop]
            refine mvV T (.int .i64 (i : Int)) rfl rfl (by decide) (fun _ => by go_simp) (fun _ => by simp [go_sem]) ?_
            walk_nrm
            refine mvV T (.int .i64 ((i + 1 : Nat) : Int)) rfl rfl (by decide) (fun _ => by go_simp) (fun _ => by simp [go_sem]) ?_
            walk_nrm
            refine mvV T (.int .i64 ((i + 1 : Nat) : Int)) rfl rfl (by decide) (fun _ => by go_simp) (fun _ => by simp [go_sem]) ?_
            walk_nrm
            refine mvS T rfl (fun _ => stepG_region_end) ?_
            refine mvS T rfl (fun _ => stepG_inBlock) ?_
            refine mvS T rfl (fun _ => stepG_inLoop) ?_
            exact Goes.mono (IH _ _ _ _ _ _ _ _ _ _ _ _ _ _ _ _ _ hF₄) (by omega)
          · have hl' : decide (lostAt t s z i < 0) = false := decide_eq_false hl
            have hF₃ : RF K vN vB z t s (i + 1) _ := ⟨hF₂.env, by rw [hF₂.lb]; simp [lostAt, hd, hl]⟩
            refine mvV T (.bool false) rfl rfl (by decide) (fun _ => by go_simp) (fun _ => by simp [go_sem]) ?_
            walk_nrm
            refine mvV T (.bool false) rfl rfl (by decide) (fun _ => by go_simp) (fun _ => by simp [go_sem]) ?_
            walk_nrm
            refine mvS T rfl (fun _ => stepG_region_end) ?_
            refine mvS T rfl (fun _ => stepG_cond (t := false) rfl) ?_
            simp only [Bool.false_eq_true, if_false]
            refine mvS T rfl (fun _ => stepG_skip) ?_
            refine mvS T rfl (fun _ => stepG_region) ?_
            simp only [List.size_toArray, List.length_cons, List.length_nil, Nat.reduceAdd, Nat.zero_add, List.range, List.range.loop]
            refine mvV T (.int .i64 (i : Int)) rfl rfl (by decide) (fun _ => by go_simp) (fun _ => by simp [go_sem]) ?_
            walk_nrm
            refine mvV T (.int .i64 ((i + 1 : Nat) : Int)) rfl rfl (by decide) (fun _ => by go_simp) (fun _ => by simp [go_sem]) ?_
            walk_nrm
            refine mvV T (.int .i64 ((i + 1 : Nat) : Int)) rfl rfl (by decide) (fun _ => by go_simp) (fun _ => by simp [go_sem]) ?_
            walk_nrm
            refine mvS T rfl (fun _ => stepG_region_end) ?_
            refine mvS T rfl (fun _ => stepG_inBlock) ?_
            refine mvS T rfl (fun _ => stepG_inLoop) ?_
            exact Goes.mono (IH _ _ _ _ _ _ _ _ _ _ _ _ _ _ _ _ _ hF₃) (by omega)
        · rw [hd]
          have hF₃ : RF K vN vB z t s (i + 1) _ := ⟨hF₂.env, by rw [hF₂.lb]; simp [lostAt, hd]⟩
          refine mvS T rfl (fun _ => stepG_unwanted rfl rfl) ?_
          walk_nrm
          refine mvS T rfl (fun _ => stepG_unwanted rfl rfl) ?_
          walk_nrm
          refine mvV T (.bool false) rfl rfl (by decide) (fun _ => by go_simp) (fun _ => by simp [go_sem]) ?_
          walk_nrm
          refine mvS T rfl (fun _ => stepG_region_end) ?_
          refine mvS T rfl (fun _ => stepG_cond (t := false) rfl) ?_
          simp only [Bool.false_eq_true, if_false]
          refine mvS T rfl (fun _ => stepG_skip) ?_
          refine mvS T rfl (fun _ => stepG_region) ?_
          simp only [List.size_toArray, List.length_cons, List.length_nil, Nat.reduceAdd, Nat.zero_add, List.range, List.range.loop]
          refine mvV T (.int .i64 (i : Int)) rfl rfl (by decide) (fun _ => by go_simp) (fun _ => by simp [go_sem]) ?_
          walk_nrm
          refine mvV T (.int .i64 ((i + 1 : Nat) : Int)) rfl rfl (by decide) (fun _ => by go_simp) (fun _ => by simp [go_sem]) ?_
          walk_nrm
          refine mvV T (.int .i64 ((i + 1 : Nat) : Int)) rfl rfl (by decide) (fun _ => by go_simp) (fun _ => by simp [go_sem]) ?_
          walk_nrm
          refine mvS T rfl (fun _ => stepG_region_end) ?_
          refine mvS T rfl (fun _ => stepG_inBlock) ?_
          refine mvS T rfl (fun _ => stepG_inLoop) ?_
          exact Goes.mono (IH _ _ _ _ _ _ _ _ _ _ _ _ _ _ _ _ _ hF₃) (by omega)

set_option maxRecDepth 100000 in
set_option maxHeartbeats 1000000 in
/-- ████ THE RECEIVER, FROM ITS BIRTH. ████ -/
theorem recv_c (N : Nums K vN vB) (V : Vals K z t s) (Z : Zer K z t s) (hz : FinZ z) (w : World) (hF : RF K vN vB z t s 0 w) :
    ∃ m, Goes K.P false (Rly K 3) (Gua K 3) (AtRn K (valR t s z 0 401)) m (born Try.prog (wcall 27 #[.pointer (some ⟨K.Wg, 0, none⟩), .pointer (some ⟨vN, 0, none⟩), .pointer (some ⟨vB, 0, none⟩), .pointer (some ⟨K.Lb, 0, none⟩)])) w := by
  have T := terms K 3
  refine ⟨3 + 15, ?_⟩
  rw [N.prog]
  refine mvS T rfl (born_step Try.func27 (by rfl) rfl) ?_
  simp only [Try.f27, Option.getD_some, List.size_toArray, List.length_cons, List.length_nil, Nat.reduceAdd, Nat.reduceSub, Array.replicate_succ, Array.replicate_zero, List.push_toArray, List.append_toArray, List.nil_append, List.cons_append]
  refine mvS T rfl (fun _ => stepG_seq) ?_
  refine mvS T rfl (fun _ => stepG_region) ?_
  simp only [List.size_toArray, List.length_cons, List.length_nil, Nat.reduceAdd, Nat.zero_add, List.range, List.range.loop]
  refine mvS T rfl (fun _ => stepG_defer rfl rfl (by decide) rfl) ?_
  walk_nrm
  refine mvS T rfl (fun _ => stepG_region_end) ?_
  refine mvS T rfl (fun _ => stepG_seq) ?_
  refine mvS T rfl (fun _ => stepG_region) ?_
  simp only [List.size_toArray, List.length_cons, List.length_nil, Nat.reduceAdd, Nat.zero_add, List.range, List.range.loop]
  refine mvV T (.int .i64 0) rfl rfl (by decide) (fun _ => by go_simp) (fun _ => by simp [go_sem]) ?_
  walk_nrm
  refine mvS T rfl (fun _ => stepG_region_end) ?_
  refine mvS T rfl (fun _ => stepG_seq) ?_
  refine mvS T rfl (fun _ => stepG_region) ?_
  simp only [List.size_toArray, List.length_cons, List.length_nil, Nat.reduceAdd, Nat.zero_add, List.range, List.range.loop]
  refine mvOp T (.chan (some K.cN)) rfl rfl (by decide) (fun w₁ h₁ => by
    have hc := (hF.rely N h₁).env.cN
    go_simp) (fun w₁ h₁ => Gua.reads (by
    have hc := (hF.rely N h₁).env.cN
    intro e he
    have hm := mem_listed he
    simp [go_sem, hc] at hm
    subst hm
    exact evK_read (Env.roN N))) ?_
  walk_nrm
  refine mvS T rfl (fun _ => stepG_region_end) ?_
  refine mvS T rfl (fun _ => stepG_block) ?_
  refine mvS T rfl (fun _ => stepG_loop) ?_
  have key := rFrom N V Z hz 401 0 (by omega)
  simp only [headR, L27, body27, Try.f27, Option.getD_some] at key
  exact key _ _ _ _ _ _ _ _ _ _ _ _ _ _ _ _ _ hF
end
end Go.Proofs.Ytmoajpkgdimdaaa
