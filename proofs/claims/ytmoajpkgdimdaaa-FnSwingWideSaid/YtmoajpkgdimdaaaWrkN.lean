/- The narrow sender. -/
import Derived.Test.YtmoajpkgdimdaaaWrkA
set_option linter.unusedSectionVars false
set_option linter.unusedVariables false
set_option linter.unusedSimpArgs false
namespace Go.Proofs.Ytmoajpkgdimdaaa
open Go.Conc Go.ConcN Go.RowKit Go.Conc.Lib Go.ConcR.Gen
open Go.ConcR (KK wgBlock WgAt stA smA rd wr mk Payload)

/-- What every worker holds of the world. -/
structure Env (K : Cst) (vN vB : Nat) (z : Z2) (t s : Nat) (w : World) : Prop where
  sz : K.H0 ≤ w.heap.size
  live : WgLive wlink.tWg K.Wg w
  sw : w.heap[K.C]? = some (.cells #[.complex .f32 z.1 z.2, .int .i64 t, .int .i64 s] 25)
  nar : w.heap[vN]? = some (.cells #[.chan (some K.cN)] 44)
  bro : w.heap[vB]? = some (.cells #[.chan (some K.cB)] 45)
/-- Where the two variables lie; the numbers of this program. -/
structure Nums (K : Cst) (vN vB : Nat) : Prop where
  geo : Geo K
  prog : K.P = Try.prog
  ty : K.ty = wlink.tWg
  tb : K.tb = 25
  tr : K.tr = 23
  n0 : vN < K.H0
  b0 : vB < K.H0
  nw : vN ≠ K.Wg
  nn : vN ≠ K.cN
  nb : vN ≠ K.cB
  nl : vN ≠ K.Lb
  bw : vB ≠ K.Wg
  bn : vB ≠ K.cN
  bb : vB ≠ K.cB
  bl : vB ≠ K.Lb
section
variable {K : Cst} {vN vB k : Nat} {z : Z2} {t s : Nat} {w w₁ : World}
theorem Env.rely (N : Nums K vN vB) (h : Env K vN vB z t s w) (r : Rly K k w w₁) : Env K vN vB z t s w₁ :=
  ⟨Nat.le_trans h.sz r.size, by have := r.live; rw [N.ty] at this; exact this h.live, (r.old _ N.geo.c (Ne.symm N.geo.wc) N.geo.cn N.geo.cb fun e => absurd e N.geo.cl).trans h.sw,
   (r.old _ N.n0 N.nw N.nn N.nb fun e => absurd e N.nl).trans h.nar, (r.old _ N.b0 N.bw N.bn N.bb fun e => absurd e N.bl).trans h.bro⟩
theorem Env.roC (N : Nums K vN vB) : RO K w K.C := .inl ⟨N.geo.c, Ne.symm N.geo.wc, N.geo.cl⟩
theorem Env.roN (N : Nums K vN vB) : RO K w vN := .inl ⟨N.n0, N.nw, N.nl⟩
theorem Env.roB (N : Nums K vN vB) : RO K w vB := .inl ⟨N.b0, N.bw, N.bl⟩
theorem Env.cN (h : Env K vN vB z t s w) : w.cell? ⟨vN, 0, none⟩ = some (.chan (some K.cN)) := by simp [World.cell?, h.nar]
theorem Env.cB (h : Env K vN vB z t s w) : w.cell? ⟨vB, 0, none⟩ = some (.chan (some K.cB)) := by simp [World.cell?, h.bro]
theorem Env.c0 (h : Env K vN vB z t s w) : w.cell? ⟨K.C, 0, none⟩ = some (.complex .f32 z.1 z.2) := by simp [World.cell?, h.sw]
theorem Env.c1 (h : Env K vN vB z t s w) : w.cell? ⟨K.C, 1, none⟩ = some (.int .i64 t) := by simp [World.cell?, h.sw]
theorem Env.c2 (h : Env K vN vB z t s w) : w.cell? ⟨K.C, 2, none⟩ = some (.int .i64 s) := by simp [World.cell?, h.sw]
end

def Vals (K : Cst) (z : Z2) (t s : Nat) : Prop := K.val 0 = .complex .f32 z.1 z.2 ∧ K.val 1 = .int .i64 t ∧ K.val 2 = .int .i64 s
/-- From a worker's way out to its release. -/
theorem out_c {K : Cst} {vN vB k : Nat} {z : Z2} {t s : Nat} (N : Nums K vN vB) (V : Vals K z t s) (hk : k = 1 ∨ k = 2 ∨ k = 3) {f : Nat} (a : Array Value) {fn : Func} (hf : Try.prog.funcs[f]? = some fn) (hr : fn.results = #[]) {Qw : World → Prop} (hQ : ∀ w w₁, Qw w → Rly K k w w₁ → Qw w₁) (hQ1 : ∀ w, Qw w → Env K vN vB z t s w) (hQ2 : ∀ w, Qw w → k = 3 → w.heap[K.Lb]? = some K.lost) :
    ∃ n, ∀ w, Qw w → Goes K.P false (Rly K k) (Gua K k) (At0 K k) n (G { (baseD f).at ⟨a, [dcall 24 #[.pointer (some ⟨K.Wg, 0, none⟩)]]⟩ [] with mode := .returning } [bot]) w := by
  have T := terms K k
  have hT := quitsTail a hf hr
  rw [← N.prog] at hT
  obtain ⟨n, hn⟩ := done_c (c := { (baseD f).at ⟨a, []⟩ [] with mode := .returning }) (cs := [bot]) N.prog N.ty hQ (fun w hw => ⟨(hQ1 w hw).live, by
    have e := hQ1 w hw
    rcases hk with rfl | rfl | rfl
    · exact e.c0.trans (congrArg some V.1.symm)
    · exact e.c1.trans (congrArg some V.2.1.symm)
    · exact e.c2.trans (congrArg some V.2.2.symm)⟩) hQ2 rfl hT
  refine ⟨n + 1, fun w hw => ?_⟩
  rw [N.prog] at hn ⊢
  refine mvS T rfl (fun _ => stepG_unwind_enter rfl Try.func24 (nm_done wlink) rfl) ?_
  exact hn w hw
/-- The values that are still to be sent. -/
def valN (t s : Nat) (z : Z2) : Nat → Nat → List Value
  | _, 0 => []
  | i, m + 1 => zv (nmZ t s z i) :: valN t s z (i + 1) m

section
variable {K : Cst} {vN vB g : Nat} {z : Z2} {t s : Nat} {cur : Array Value} {w w₁ : World}
theorem loud23 : (Try.prog.funcs[(baseD 23).fn]?).any (·.norace) = false := by kernel_rfl
theorem evK_close {k c : Nat} (hc : c < K.H0) : ∀ e ∈ #[(⟨.obj c, false, true⟩ : Event), ⟨.obj c, true, true⟩], EvK K k w e := by
  intro e he
  simp at he
  rcases he with rfl | rfl
  · refine ⟨by simp, by simp, by simp, fun x hx => ?_⟩
    have hx' : some (⟨.obj c, false, .atomic⟩ : Touch) = some x := hx
    cases hx'
    exact .inl ⟨rfl, .inr ⟨c, hc, rfl⟩⟩
  · refine ⟨by simp, by simp, by simp, fun x hx => ?_⟩
    have hx' : (none : Option Touch) = some x := hx
    cases hx'
theorem rly_chan {k c sn rn : Nat} {b cl : Bool} {tm : Bool} (N : Nums K vN vB) (hcc : c = K.cN ∨ c = K.cB) (hc : w.heap[c]? = some (.chan 0 #[] b sn rn tm)) (hl : WgLive wlink.tWg K.Wg w) {s' r' : Nat} : Rly K k w (w.setChan c 0 #[] cl s' r' tm) := by
  have hne : K.Wg ≠ c := by rcases hcc with rfl | rfl <;> first | exact N.geo.wn | exact N.geo.wb
  have ho : ∀ b, b ≠ c → (w.setChan c 0 #[] cl s' r' tm).heap[b]? = w.heap[b]? := fun b hb => by simp [World.setChan, Array.getElem?_setIfInBounds_ne (Ne.symm hb)]
  refine Rly.of_one N.geo (.inr hcc) (by simp [World.setChan]) ho fun _ => ?_
  obtain ⟨st, sm, h⟩ := hl
  rw [N.ty]
  exact ⟨st, sm, h.of_block (ho _ hne)⟩
noncomputable def body23 : Code := Try.f23.body.getD .skip
noncomputable def L23 : Code := match body23 with | .seq _ (.seq _ (.seq _ (.block _ (.loop c)))) => c | _ => .skip
/-- What it holds behind its numbers. -/
structure NF (K : Cst) (vN vB g : Nat) (z : Z2) (t s : Nat) (cur : Array Value) (w : World) : Prop where
  env : Env K vN vB z t s w
  glo : K.H0 ≤ g
  gr : w.heap[g]? = some (.cells cur K.tr)
theorem NF.rely (N : Nums K vN vB) (h : NF K vN vB g z t s cur w) (r : Rly K 1 w w₁) : NF K vN vB g z t s cur w₁ := ⟨h.env.rely N r, h.glo, r.row rfl g cur h.glo h.gr⟩
theorem NF.cell (h : NF K vN vB g z t s cur w) (i : Nat) : w.cell? ⟨g, i, none⟩ = cur[i]? := by simp [World.cell?, h.gr]
abbrev dN (K : Cst) : List Deferred := [dclose 44 K.cN, dcall 24 #[.pointer (some ⟨K.Wg, 0, none⟩)]]
noncomputable def headN (K : Cst) (vN g i : Nat) (u3 u4 u6 u10 u11 u12 u13 u14 u15 : Value) : Goroutine :=
  G ((baseD 23).at ⟨#[.pointer (some ⟨K.Wg, 0, none⟩), .pointer (some ⟨vN, 0, none⟩), .pointer (some ⟨K.C, 0, none⟩), u3, u4, .chan (some K.cN), u6, .slice (some ⟨g, 0, none⟩) 401 401, .int .i64 401, .int .i64 i, u10, u11, u12, u13, u14, u15], dN K⟩ [.code L23, .inLoop L23, .inBlock 0]) [bot]

set_option maxRecDepth 100000 in
set_option maxHeartbeats 1000000 in
/-- From the loop's head. -/
theorem nFrom (N : Nums K vN vB) (V : Vals K z t s) (hcur : NmAt t s z 401 cur) : ∀ (m i : Nat), i + m = 401 → ∀ (u3 u4 u6 u10 u11 u12 u13 u14 u15 : Value) (w : World), NF K vN vB g z t s cur w →
    Goes Try.prog false (Rly K 1) (Gua K 1) (AtS K 1 K.cN (.tuple #[]) (valN t s z i m)) 20 (headN K vN g i u3 u4 u6 u10 u11 u12 u13 u14 u15) w := by
  have T := terms K 1
  intro m
  induction m with
  | zero =>
    intro i hi
    obtain rfl : i = 401 := by omega
    intro u3 u4 u6 u10 u11 u12 u13 u14 u15 w hF
    simp only [headN, L23, body23, Try.f23, Option.getD_some]
    refine mvS T rfl (fun _ => stepG_seq) ?_
    refine mvS T rfl (fun _ => stepG_region) ?_
    simp only [List.size_toArray, List.length_cons, List.length_nil, Nat.reduceAdd, Nat.zero_add, List.range, List.range.loop]
    refine mvV T (.bool false) rfl rfl (by decide) (fun _ => by go_simp) (fun _ => by simp [go_sem]) ?_
    walk_nrm
    refine mvS T rfl (fun _ => stepG_region_end) ?_
    refine mvS T rfl (fun _ => stepG_seq) ?_
    refine mvS T rfl (fun _ => stepG_cond (t := false) rfl) ?_
    simp only [Bool.false_eq_true, if_false]
    refine mvS T rfl (fun _ => stepG_exit rfl) ?_
    refine mvS T rfl (fun _ => stepG_end) ?_
    refine Goes.stop fun w₁ h₁ => ⟨rfl, by rw [N.prog]; rfl, fun sn rn tm hc => ?_⟩
    have hF₁ := hF.rely N h₁
    obtain ⟨no, ho⟩ := out_c (k := 1) N V (.inl rfl) _ Try.func23 rfl (Qw := fun w => Env K vN vB z t s w) (fun _ _ h r => h.rely N r) (fun _ h => h) (fun _ _ h => absurd h (by decide))
    refine ⟨_, _, by rw [N.prog]; exact stepG_unwindClose rfl loud23 w₁ hc, evK_close N.geo.n, rfl, no, ho _ ?_⟩
    exact hF₁.env.rely N (rly_chan (k := 1) N (.inl rfl) hc hF₁.env.live)
  | succ m ih =>
    intro i hi
    have IH := ih (i + 1) (by omega)
    intro u3 u4 u6 u10 u11 u12 u13 u14 u15 w hF
    have hlt : (i : Int) < 401 := by omega
    have hlt' : i < 401 := by omega
    have hw64 : IntKind.i64.wrap ((i : Int) + 1) = ((i + 1 : Nat) : Int) := by rw [IntKind.wrap_i64]; omega
    have hdt : decide ((i : Int) < 401) = true := decide_eq_true hlt
    simp only [headN, L23, body23, Try.f23, Option.getD_some] at IH ⊢
    refine mvS T rfl (fun _ => stepG_seq) ?_
    refine mvS T rfl (fun _ => stepG_region) ?_
    simp only [List.size_toArray, List.length_cons, List.length_nil, Nat.reduceAdd, Nat.zero_add, List.range, List.range.loop]
    refine mvV T (.bool true) rfl rfl (by decide) (fun _ => by go_simp) (fun _ => by simp [go_sem]) ?_
    walk_nrm
    refine mvS T rfl (fun _ => stepG_region_end) ?_
    refine mvS T rfl (fun _ => stepG_seq) ?_
    refine mvS T rfl (fun _ => stepG_cond (t := true) rfl) ?_
    simp only [if_true]
    refine mvS T rfl (fun _ => stepG_skip) ?_
    refine mvS T rfl (fun _ => stepG_seq) ?_
    refine mvS T rfl (fun _ => stepG_block) ?_
    refine mvS T rfl (fun _ => stepG_seq) ?_
    refine mvS T rfl (fun _ => stepG_region) ?_
    simp only [List.size_toArray, List.length_cons, List.length_nil, Nat.reduceAdd, Nat.zero_add, List.range, List.range.loop]
    refine mvV T (.pointer (some ⟨g, i, none⟩)) rfl rfl (by decide) (fun _ => by go_simp) (fun _ => by simp [go_sem, *]) ?_
    walk_nrm
    refine mvOp T (zv (nmZ t s z i)) rfl rfl (by decide) (fun w₁ h₁ => by
      have hc : w₁.cell? ⟨g, i, none⟩ = some (zv (nmZ t s z i)) := ((hF.rely N h₁).cell i).trans (hcur.2 i (by omega))
      go_simp) (fun w₁ h₁ => Gua.reads (by
      have hF₁ := hF.rely N h₁
      have hc : w₁.cell? ⟨g, i, none⟩ = some (zv (nmZ t s z i)) := (hF₁.cell i).trans (hcur.2 i (by omega))
      intro e he
      have hm := mem_listed he
      simp [go_sem, hc] at hm
      subst hm
      exact evK_row ⟨hF₁.glo, _, hF₁.gr⟩)) ?_
    walk_nrm
    refine mvV T (zv (nmZ t s z i)) rfl rfl (by decide) (fun _ => by go_simp) (fun _ => by simp [go_sem]) ?_
    walk_nrm
    refine mvS T rfl (fun _ => stepG_region_end) ?_
    refine mvS T rfl (fun _ => stepG_region) ?_
    simp only [List.size_toArray, List.length_cons, List.length_nil, Nat.reduceAdd, Nat.zero_add, List.range, List.range.loop]
    refine mvOp T (.chan (some K.cN)) rfl rfl (by decide) (fun w₁ h₁ => by
      have hc := (hF.rely N h₁).env.cN
      go_simp) (fun w₁ h₁ => Gua.reads (by
      have hc := (hF.rely N h₁).env.cN
      intro e he
      have hm := mem_listed he
      simp [go_sem, hc] at hm
      subst hm
      exact evK_read (Env.roN N))) ?_
    walk_nrm
    refine mvV T (zv (nmZ t s z i)) rfl rfl (by decide) (fun _ => by go_simp) (fun _ => by simp [go_sem]) ?_
    walk_nrm
    refine Goes.stop fun w₁ h₁ => ⟨rfl, _, _, ⟨rfl, rfl, rfl⟩, by rw [N.prog]; exact stepG_comm rfl rfl (by decide) (by unfold execOp; simp [Act.eval]; rfl), ?_, 20 + 8, ?_⟩
    · rw [listed_nil (by unfold execOp; simp)]; simp
    · have hF₁ := hF.rely N h₁
      rw [served_G, N.prog]
      walk_nrm
      refine mvS T rfl (fun _ => stepG_region_end) ?_
      refine mvS T rfl (fun _ => stepG_inBlock) ?_
      refine mvS T rfl (fun _ => stepG_region) ?_
      simp only [List.size_toArray, List.length_cons, List.length_nil, Nat.reduceAdd, Nat.zero_add, List.range, List.range.loop]
      refine mvV T (.int .i64 ((i + 1 : Nat) : Int)) rfl rfl (by decide) (fun _ => by go_simp) (fun _ => by simp [go_sem]) ?_
      walk_nrm
      refine mvV T (.int .i64 ((i + 1 : Nat) : Int)) rfl rfl (by decide) (fun _ => by go_simp) (fun _ => by simp [go_sem]) ?_
      walk_nrm
      refine mvS T rfl (fun _ => stepG_region_end) ?_
      refine mvS T rfl (fun _ => stepG_inLoop) ?_
      exact (IH _ _ _ _ _ _ _ _ _ _ hF₁).more

set_option maxRecDepth 100000 in
set_option maxHeartbeats 1000000 in
/-- ████ THE NARROW SENDER, FROM ITS BIRTH. ████ -/
theorem narrow_c (N : Nums K vN vB) (V : Vals K z t s) (hz : FinZ z) (ht : t ≤ 3) (hs : s ≤ 4) (w : World) (hE : Env K vN vB z t s w) :
    ∃ m, Goes K.P false (Rly K 1) (Gua K 1) (AtS K 1 K.cN (.tuple #[]) (valN t s z 0 401)) m (born Try.prog (wcall 23 #[.pointer (some ⟨K.Wg, 0, none⟩), .pointer (some ⟨vN, 0, none⟩), .pointer (some ⟨K.C, 0, none⟩)])) w := by
  have T := terms K 1
  obtain ⟨nn, hnum⟩ := numbers_c (K := K) N.geo N.tb N.tr
  refine ⟨(23 + nn + 3) + 20, ?_⟩
  rw [N.prog]
  refine mvS T rfl (born_step Try.func23 (by rfl) rfl) ?_
  simp only [Try.f23, Option.getD_some, List.size_toArray, List.length_cons, List.length_nil, Nat.reduceAdd, Nat.reduceSub, Array.replicate_succ, Array.replicate_zero, List.push_toArray, List.append_toArray, List.nil_append, List.cons_append]
  refine mvS T rfl (fun _ => stepG_seq) ?_
  refine mvS T rfl (fun _ => stepG_region) ?_
  simp only [List.size_toArray, List.length_cons, List.length_nil, Nat.reduceAdd, Nat.zero_add, List.range, List.range.loop]
  refine mvS T rfl (fun _ => stepG_defer rfl rfl (by decide) rfl) ?_
  walk_nrm
  refine mvS T rfl (fun _ => stepG_region_end) ?_
  refine mvS T rfl (fun _ => stepG_seq) ?_
  refine mvS T rfl (fun _ => stepG_region) ?_
  simp only [List.size_toArray, List.length_cons, List.length_nil, Nat.reduceAdd, Nat.zero_add, List.range, List.range.loop]
  refine mvOp T (.chan (some K.cN)) rfl rfl (by decide) (fun w₁ h₁ => by
    have hc := (hE.rely N h₁).cN
    go_simp) (fun w₁ h₁ => Gua.reads (by
    have hc := (hE.rely N h₁).cN
    intro e he
    have hm := mem_listed he
    simp [go_sem, hc] at hm
    subst hm
    exact evK_read (Env.roN N))) ?_
  walk_nrm
  refine mvS T rfl (stepG_deferClose rfl rfl (by decide) rfl rfl rfl) ?_
  walk_nrm
  refine mvS T rfl (fun _ => stepG_region_end) ?_
  refine mvS T rfl (fun _ => stepG_seq) ?_
  refine mvS T rfl (fun _ => stepG_region) ?_
  simp only [List.size_toArray, List.length_cons, List.length_nil, Nat.reduceAdd, Nat.zero_add, List.range, List.range.loop]
  refine mvOp T (swv z.1 z.2 t s) rfl rfl (by decide) (fun w₁ h₁ => by
    have h0 := (hE.rely N h₁).c0
    have h1 := (hE.rely N h₁).c1
    have h2 := (hE.rely N h₁).c2
    go_simp) (fun w₁ h₁ => Gua.reads (by
    have h0 := (hE.rely N h₁).c0
    have h1 := (hE.rely N h₁).c1
    have h2 := (hE.rely N h₁).c2
    intro e he
    have hm := mem_listed he
    simp [go_sem, h0, h1, h2] at hm
    rcases hm with rfl | rfl | rfl <;> exact evK_read (Env.roC N))) ?_
  walk_nrm
  refine Goes.mono (Goes.call (m := 25) T rfl rfl (by decide) rfl (by walk_nrm; exact hnum t s z w w hz ht hs ⟨Rly.refl w, hE.sz⟩ (Nat.le_refl _)) ?_) (by omega)
  rintro v w' ⟨hb, g, cur, rfl, hg, hgr, hcur⟩
  have hF : NF K vN vB g z t s cur w' := ⟨hE.rely N hb.rl, hg, hgr⟩
  walk_nrm
  refine mvV T (.int .i64 401) rfl rfl (by decide) (fun _ => by go_simp) (fun _ => by simp [go_sem]) ?_
  walk_nrm
  refine mvV T (.int .i64 0) rfl rfl (by decide) (fun _ => by go_simp) (fun _ => by simp [go_sem]) ?_
  walk_nrm
  refine mvS T rfl (fun _ => stepG_region_end) ?_
  refine mvS T rfl (fun _ => stepG_block) ?_
  refine mvS T rfl (fun _ => stepG_loop) ?_
  have key := nFrom (g := g) N V hcur 401 0 (by omega)
  simp only [headN, L23, body23, Try.f23, Option.getD_some] at key
  exact key _ _ _ _ _ _ _ _ _ _ hF
end
end Go.Proofs.Ytmoajpkgdimdaaa
