/- The broad sender. -/
import Derived.Test.YtmoajpkgdimdaaaWrkN
import Derived.Test.YtmoajpkgdimdaaaSwingF
set_option linter.unusedSectionVars false
set_option linter.unusedVariables false
set_option linter.unusedSimpArgs false
namespace Go.Proofs.Ytmoajpkgdimdaaa
open Go.Conc Go.ConcN Go.RowKit Go.Conc.Lib Go.ConcR.Gen
open Go.ConcR (KK wgBlock WgAt stA smA rd wr mk Payload)

/-- The values that are still to be sent. -/
def valB (t s : Nat) (z : Z2) : Nat → Nat → List Value
  | _, 0 => []
  | i, m + 1 => wv (nmW t s z i) :: valB t s z (i + 1) m
theorem ev_to128 (w : World) (es : Array Event) (x y : Nat) : (convert 23 28 (.complex .f32 x y)).events Try.prog w es = es := by
  have h1 := ev_floatToFloat (P := Try.prog) (w := w) (es := es) .f32 .f64 x
  unfold convert
  simp only [Sem.events_bind, run_underlying Try.underlying23, run_underlying Try.underlying28, events_underlying, Result.evThen_ok, Conv.complexToComplex, h1]
  cases (Conv.floatToFloat .f32 x .f64).run Try.prog w with
  | halt _ _ => rfl
  | ok v w' =>
    simp only [Result.evThen_ok]
    cases v <;> first | rfl | skip
    simp only [Sem.events_bind, ev_floatToFloat]
    cases (Conv.floatToFloat .f32 y .f64).run Try.prog w' with
    | halt _ _ => rfl
    | ok v w' => cases v <;> rfl

section
variable {K : Cst} {vN vB g : Nat} {z zw : Z2} {t s : Nat} {w w₁ : World}
theorem loud26 : (Try.prog.funcs[(baseD 26).fn]?).any (·.norace) = false := by kernel_rfl
noncomputable def body26 : Code := Try.f26.body.getD .skip
noncomputable def L26 : Code := match body26 with | .seq _ (.seq _ (.seq _ (.seq _ (.block _ (.loop c))))) => c | _ => .skip
abbrev dB (K : Cst) : List Deferred := [dclose 45 K.cB, dcall 24 #[.pointer (some ⟨K.Wg, 0, none⟩)]]
noncomputable def headB (K : Cst) (vB i : Nat) (zi : Z2) (u5 u6 u7 u9 u10 u11 u12 u13 u14 u15 : Value) : Goroutine :=
  G ((baseD 26).at ⟨#[.pointer (some ⟨K.Wg, 0, none⟩), .pointer (some ⟨vB, 0, none⟩), .pointer (some ⟨K.C, 0, none⟩), wv zi, .chan (some K.cB), u5, u6, u7, .int .i64 i, u9, u10, u11, u12, u13, u14, u15], dB K⟩ [.code L26, .inLoop L26, .inBlock 0]) [bot]

set_option maxRecDepth 100000 in
set_option maxHeartbeats 1000000 in
/-- From the loop's head. -/
theorem bFrom (N : Nums K vN vB) (V : Vals K z t s) (hzw : NNW zw) (ht : t ≤ 3) (hs : s ≤ 4) : ∀ (m i : Nat), i + m = 401 → ∀ (u5 u6 u7 u9 u10 u11 u12 u13 u14 u15 : Value) (w : World), Env K vN vB z t s w →
    Goes Try.prog false (Rly K 2) (Gua K 2) (AtS K 2 K.cB (.tuple #[]) (valB t s zw i m)) 20 (headB K vB i (nmW t s zw i) u5 u6 u7 u9 u10 u11 u12 u13 u14 u15) w := by
  have T := terms K 2
  obtain ⟨nw, hwide⟩ := wideStep_c (K := K) (k := 2) N.tb N.geo.wg
  intro m
  induction m with
  | zero =>
    intro i hi
    obtain rfl : i = 401 := by omega
    intro u5 u6 u7 u9 u10 u11 u12 u13 u14 u15 w hE
    simp only [headB, L26, body26, Try.f26, Option.getD_some]
    refine mvS T rfl (fun _ => stepG_seq) ?_
    refine mvS T rfl (fun _ => stepG_region) ?_
    simp only [List.size_toArray, List.length_cons, List.length_nil, Nat.reduceAdd, Nat.zero_add, List.range, List.range.loop]
    refine mvV T (.bool false) rfl rfl (by decide) (fun _ => by go_simp) (fun _ => by simp [go_sem]) ?_
    walk_nrm
    refine mvS T rfl (fun _ => stepG_region_end) ?_
    refine mvS T rfl (fun _ => stepG_seq) ?_
    refine mvS T rfl (fun _ => stepG_cond (t := false) rfl) ?_
    simp only [Bool.false_eq_true, if_false]
    refine mvS T rfl (fun _ => stepG_exit rfl) ?_
    refine mvS T rfl (fun _ => stepG_end) ?_
    refine Goes.stop fun w₁ h₁ => ⟨rfl, by rw [N.prog]; rfl, fun sn rn tm hc => ?_⟩
    have hE₁ := hE.rely N h₁
    obtain ⟨no, ho⟩ := out_c (k := 2) N V (.inr (.inl rfl)) _ Try.func26 rfl (Qw := fun w => Env K vN vB z t s w) (fun _ _ h r => h.rely N r) (fun _ h => h) (fun _ _ h => absurd h (by decide))
    refine ⟨_, _, by rw [N.prog]; exact stepG_unwindClose rfl loud26 w₁ hc, evK_close N.geo.b, rfl, no, ho _ ?_⟩
    exact hE₁.rely N (rly_chan (k := 2) N (.inr rfl) hc hE₁.live)
  | succ m ih =>
    intro i hi
    have IH := ih (i + 1) (by omega)
    intro u5 u6 u7 u9 u10 u11 u12 u13 u14 u15 w hE
    have hlt : (i : Int) < 401 := by omega
    have hw64 : IntKind.i64.wrap ((i : Int) + 1) = ((i + 1 : Nat) : Int) := by rw [IntKind.wrap_i64]; omega
    have hdt : decide ((i : Int) < 401) = true := decide_eq_true hlt
    simp only [headB, L26, body26, Try.f26, Option.getD_some] at IH ⊢
    refine mvS T rfl (fun _ => stepG_seq) ?_
    refine mvS T rfl (fun _ => stepG_region) ?_
    simp only [List.size_toArray, List.length_cons, List.length_nil, Nat.reduceAdd, Nat.zero_add, List.range, List.range.loop]
    refine mvV T (.bool true) rfl rfl (by decide) (fun _ => by go_simp) (fun _ => by simp [go_sem]) ?_
    walk_nrm
    refine mvS T rfl (fun _ => stepG_region_end) ?_
    refine mvS T rfl (fun _ => stepG_seq) ?_
    refine mvS T rfl (fun _ => stepG_cond (t := true) rfl) ?_
    simp only [if_true]
    refine mvS T rfl (fun _ => stepG_skip) ?_
    refine mvS T rfl (fun _ => stepG_seq) ?_
    refine mvS T rfl (fun _ => stepG_block) ?_
    refine mvS T rfl (fun _ => stepG_seq) ?_
    refine mvS T rfl (fun _ => stepG_region) ?_
    simp only [List.size_toArray, List.length_cons, List.length_nil, Nat.reduceAdd, Nat.zero_add, List.range, List.range.loop]
    refine mvOp T (.chan (some K.cB)) rfl rfl (by decide) (fun w₁ h₁ => by
      have hc := (hE.rely N h₁).cB
      go_simp) (fun w₁ h₁ => Gua.reads (by
      have hc := (hE.rely N h₁).cB
      intro e he
      have hm := mem_listed he
      simp [go_sem, hc] at hm
      subst hm
      exact evK_read (Env.roB N))) ?_
    walk_nrm
    refine mvV T (wv (nmW t s zw i)) rfl rfl (by decide) (fun _ => by go_simp) (fun _ => by simp [go_sem]) ?_
    walk_nrm
    refine Goes.stop fun w₁ h₁ => ⟨rfl, _, _, ⟨rfl, rfl, rfl⟩, by rw [N.prog]; exact stepG_comm rfl rfl (by decide) (by unfold execOp; simp [Act.eval]; rfl), ?_, (27 + nw + 3) + 12, ?_⟩
    · rw [listed_nil (by unfold execOp; simp)]; simp
    · have hE₁ := hE.rely N h₁
      rw [served_G, N.prog]
      walk_nrm
      refine mvS T rfl (fun _ => stepG_region_end) ?_
      refine mvS T rfl (fun _ => stepG_region) ?_
      simp only [List.size_toArray, List.length_cons, List.length_nil, Nat.reduceAdd, Nat.zero_add, List.range, List.range.loop]
      refine mvOp T (swv z.1 z.2 t s) rfl rfl (by decide) (fun w₁ h₁ => by
        have h0 := (hE₁.rely N h₁).c0
        have h1 := (hE₁.rely N h₁).c1
        have h2 := (hE₁.rely N h₁).c2
        go_simp) (fun w₁ h₁ => Gua.reads (by
        have h0 := (hE₁.rely N h₁).c0
        have h1 := (hE₁.rely N h₁).c1
        have h2 := (hE₁.rely N h₁).c2
        intro e he
        have hm := mem_listed he
        simp [go_sem, h0, h1, h2] at hm
        rcases hm with rfl | rfl | rfl <;> exact evK_read (Env.roC N))) ?_
      walk_nrm
      refine mvV T (wv (nmW t s zw i)) rfl rfl (by decide) (fun _ => by go_simp) (fun _ => by simp [go_sem]) ?_
      walk_nrm
      refine Goes.mono (Goes.call (m := 28) T rfl rfl (by decide) rfl (by walk_nrm; exact hwide z.1 z.2 t s _ w₁ w₁ (nmW_nn hzw i) ht hs ⟨Rly.refl w₁, hE₁.sz⟩) ?_) (by omega)
      rintro v w' ⟨rfl, hb⟩
      have hE' := hE₁.rely N hb.rl
      walk_nrm
      rw [show stW t s (nmW t s zw i) = nmW t s zw (i + 1) from rfl]
      refine mvV T (wv (nmW t s zw (i + 1))) rfl rfl (by decide) (fun _ => by go_simp) (fun _ => by simp [go_sem]) ?_
      walk_nrm
      refine mvS T rfl (fun _ => stepG_region_end) ?_
      refine mvS T rfl (fun _ => stepG_inBlock) ?_
      refine mvS T rfl (fun _ => stepG_region) ?_
      simp only [List.size_toArray, List.length_cons, List.length_nil, Nat.reduceAdd, Nat.zero_add, List.range, List.range.loop]
      refine mvV T (.int .i64 ((i + 1 : Nat) : Int)) rfl rfl (by decide) (fun _ => by go_simp) (fun _ => by simp [go_sem]) ?_
      walk_nrm
      refine mvV T (.int .i64 ((i + 1 : Nat) : Int)) rfl rfl (by decide) (fun _ => by go_simp) (fun _ => by simp [go_sem]) ?_
      walk_nrm
      refine mvS T rfl (fun _ => stepG_region_end) ?_
      refine mvS T rfl (fun _ => stepG_inLoop) ?_
      exact IH _ _ _ _ _ _ _ _ _ _ _ hE'

set_option maxRecDepth 100000 in
set_option maxHeartbeats 1000000 in
/-- ████ THE BROAD SENDER, FROM ITS BIRTH. ████ -/
theorem broad_c (N : Nums K vN vB) (V : Vals K z t s) (hz : FinZ z) (ht : t ≤ 3) (hs : s ≤ 4) (w : World) (hE : Env K vN vB z t s w) :
    ∃ m, Goes K.P false (Rly K 2) (Gua K 2) (AtS K 2 K.cB (.tuple #[]) (valB t s (toW z) 0 401)) m (born Try.prog (wcall 26 #[.pointer (some ⟨K.Wg, 0, none⟩), .pointer (some ⟨vB, 0, none⟩), .pointer (some ⟨K.C, 0, none⟩)])) w := by
  have T := terms K 2
  have r0 := fun w => run_to128 w hz.1.nn hz.2.nn
  have e0 := ev_to128
  generalize hW : to64 z.1 = x1 at r0
  generalize hW2 : to64 z.2 = x2 at r0
  have hx : toW z = (x1, x2) := by rw [← hW, ← hW2]; rfl
  refine ⟨20 + 23, ?_⟩
  rw [N.prog]
  refine mvS T rfl (born_step Try.func26 (by rfl) rfl) ?_
  simp only [Try.f26, Option.getD_some, List.size_toArray, List.length_cons, List.length_nil, Nat.reduceAdd, Nat.reduceSub, Array.replicate_succ, Array.replicate_zero, List.push_toArray, List.append_toArray, List.nil_append, List.cons_append]
  refine mvS T rfl (fun _ => stepG_seq) ?_
  refine mvS T rfl (fun _ => stepG_region) ?_
  simp only [List.size_toArray, List.length_cons, List.length_nil, Nat.reduceAdd, Nat.zero_add, List.range, List.range.loop]
  refine mvS T rfl (fun _ => stepG_defer rfl rfl (by decide) rfl) ?_
  walk_nrm
  refine mvS T rfl (fun _ => stepG_region_end) ?_
  refine mvS T rfl (fun _ => stepG_seq) ?_
  refine mvS T rfl (fun _ => stepG_region) ?_
  simp only [List.size_toArray, List.length_cons, List.length_nil, Nat.reduceAdd, Nat.zero_add, List.range, List.range.loop]
  refine mvOp T (.chan (some K.cB)) rfl rfl (by decide) (fun w₁ h₁ => by
    have hc := (hE.rely N h₁).cB
    go_simp) (fun w₁ h₁ => Gua.reads (by
    have hc := (hE.rely N h₁).cB
    intro e he
    have hm := mem_listed he
    simp [go_sem, hc] at hm
    subst hm
    exact evK_read (Env.roB N))) ?_
  walk_nrm
  refine mvS T rfl (stepG_deferClose rfl rfl (by decide) rfl rfl rfl) ?_
  walk_nrm
  refine mvS T rfl (fun _ => stepG_region_end) ?_
  refine mvS T rfl (fun _ => stepG_seq) ?_
  refine mvS T rfl (fun _ => stepG_region) ?_
  simp only [List.size_toArray, List.length_cons, List.length_nil, Nat.reduceAdd, Nat.zero_add, List.range, List.range.loop]
  refine mvV T (.pointer (some ⟨K.C, 0, none⟩)) rfl rfl (by decide) (fun _ => by go_simp) (fun _ => by simp [go_sem]) ?_
  walk_nrm
  refine mvOp T (zv z) rfl rfl (by decide) (fun w₁ h₁ => by
    have h0 := (hE.rely N h₁).c0
    go_simp) (fun w₁ h₁ => Gua.reads (by
    have h0 := (hE.rely N h₁).c0
    intro e he
    have hm := mem_listed he
    simp [go_sem, h0] at hm
    subst hm
    exact evK_read (Env.roC N))) ?_
  walk_nrm
  refine mvV T (.complex .f64 x1 x2) rfl rfl (by decide) (fun _ => by go_simp) (fun _ => by simp [go_sem, e0]) ?_
  walk_nrm
  refine mvV T (.complex .f64 x1 x2) rfl rfl (by decide) (fun _ => by go_simp) (fun _ => by simp [go_sem]) ?_
  walk_nrm
  refine mvS T rfl (fun _ => stepG_region_end) ?_
  refine mvS T rfl (fun _ => stepG_seq) ?_
  refine mvS T rfl (fun _ => stepG_region) ?_
  simp only [List.size_toArray, List.length_cons, List.length_nil, Nat.reduceAdd, Nat.zero_add, List.range, List.range.loop]
  refine mvV T (.int .i64 0) rfl rfl (by decide) (fun _ => by go_simp) (fun _ => by simp [go_sem]) ?_
  walk_nrm
  refine mvS T rfl (fun _ => stepG_region_end) ?_
  refine mvS T rfl (fun _ => stepG_block) ?_
  refine mvS T rfl (fun _ => stepG_loop) ?_
  have key := bFrom N V (toW_nn hz) ht hs 401 0 (by omega)
  rw [hx] at key ⊢
  simp only [headB, L26, body26, Try.f26, Option.getD_some] at key
  exact key _ _ _ _ _ _ _ _ _ _ _ hE
end
end Go.Proofs.Ytmoajpkgdimdaaa
