/- (*sync.WaitGroup).Wait beside three that may allot. -/
import Derived.Test.YtmoajpkgdimdaaaWrkR
import Derived.Test.YtmoajpkgdimdaaaCrwJ
set_option linter.unusedSectionVars false
set_option linter.unusedVariables false
set_option linter.unusedSimpArgs false
namespace Go.Proofs.Ytmoajpkgdimdaaa
open Go.Conc Go.ConcN Go.ConcN.Gen Go.RowKit Go.Conc.Lib Go.ConcR.Gen
open Go.ConcR (KK wgBlock WgAt stA smA rd wr mk Payload)

section
variable {P : Program} {main : Bool} {b b₀ : Frame} {a a₀ : Act} {k : List Item} {cs : List Frame} {ops : Array Oper} {i : Nat} {rest : List Nat} {todo : List Item} {fn : Func}
theorem stepG_leave1 (w : World) {t : Tmp} (hn : b.kind = .normal) (hd : a.defers = []) (hf : P.funcs[b.fn]? = some fn) (hr : fn.results = #[.tmp t]) :
    stepG P main (G { b.at a todo with mode := .returning } (b₀.at a₀ (.inRegion ops (i :: rest) :: k) :: cs)) w = .go (G (b₀.at (a₀.put ((ops[i]?).bind (·.dst)) (a.tmps.getD t undef)) (.inRegion ops rest :: k)) cs) w #[] := by
  rw [stepG_leave hn hd hf (results_tmp hr _ P w) (events_results_tmp hr _ _), Frame.finish_at]
theorem stepG_leave0 (w : World) (hn : b.kind = .normal) (hd : a.defers = []) (hf : P.funcs[b.fn]? = some fn) (hr : fn.results = #[]) :
    stepG P main (G { b.at a todo with mode := .returning } (b₀.at a₀ (.inRegion ops (i :: rest) :: k) :: cs)) w = .go (G (b₀.at (a₀.put ((ops[i]?).bind (·.dst)) (.tuple #[])) (.inRegion ops rest :: k)) cs) w #[] := by
  rw [stepG_leave hn hd hf (results_none hr _ P w) (events_results_none hr _ _), Frame.finish_at]
variable {D : World → World → Array Event → Prop} {S : Goroutine → World → Prop} {g g' : Goroutine} {w : World}
/-- A silent step, asking the tape. -/
theorem gwS (hD : ∀ w, D w w #[]) (hs : g.status = .running) (h : ∀ w, stepG P main g w = .go g' w #[]) (next : GoesW P main D S g' w) : GoesW P main D S g w :=
  .mk hs fun d => ⟨_, _, _, h _, hD _, next.at d⟩
theorem gwV (hD : ∀ w, D w w #[]) {o : Oper} (v : Value) (ho : ops[i]? = some o) (hw : Region.wanted o (yielded ops a.tmps) = true) (hk : b.kind ≠ .early)
    (hr : ∀ w₁, (execOp a.eval o).run P w₁ = .ok (.value v) w₁) (he : ∀ w₁, (execOp a.eval o).events P w₁ #[] = #[]) (next : GoesW P main D S (G (b.at (a.put o.dst v) (.inRegion ops rest :: k)) cs) w) :
    GoesW P main D S (G (b.at a (.inRegion ops (i :: rest) :: k)) cs) w :=
  gwS hD rfl (fun w₁ => by rw [stepG_value ho hw hk (hr w₁), listed_nil (he w₁)]) next
end

section
variable {K : Cst}
theorem termsM (K : Cst) : Terms (Rly K 0) (DM K) := ⟨fun _ _ _ h1 h2 => h1.trans h2, fun w => ⟨rfl, by simp⟩⟩
theorem evM_said : ∀ e ∈ #[mk (.write (smA K.Wg))], EvM K e := by
  intro e he
  simp at he
  subst he
  refine ⟨by simp [mk], by simp [mk], by simp [mk], fun x hx => ?_⟩
  have hx' : some (⟨.cell (smA K.Wg), true, .said⟩ : Touch) = some x := hx
  cases hx'
  exact ⟨rfl, _, rfl, rfl⟩
/-- THE ANCHOR: at the head of Wait's loop. -/
def AnchM (K : Cst) (c : Frame) (cs : List Frame) (g : Goroutine) (w : World) : Prop :=
  ∃ T : Array Value, g = G ((base wlink.wait).at ⟨T, []⟩ [.code (L7 wlink), .inLoop (L7 wlink), .inBlock 0]) (c :: cs) ∧ T.size = 84 ∧ T[0]? = some (.pointer (some ⟨K.Wg, 0, none⟩)) ∧ WgLive K.ty K.Wg w
theorem AnchM.run {c : Frame} {cs : List Frame} {g : Goroutine} {w : World} (h : AnchM K c cs g w) : g.status = .running := by obtain ⟨T, rfl, -⟩ := h; rfl
variable {b₀ : Frame} {a₀ : Act} {ops₀ : Array Oper} {i₀ : Nat} {rest₀ : List Nat} {k₀ : List Item} {cs : List Frame} {Qe : World → Prop} {D : World → World → Array Event → Prop} {S : Goroutine → World → Prop}

set_option maxRecDepth 100000 in
set_option maxHeartbeats 8000000 in
/-- FROM THE LOOP's HEAD. -/
theorem wait_round (hP : K.P = Try.prog) (hD : ∀ w, D w w #[])
    (hT : ∀ w, Qe w → GoesW K.P true D S (G (b₀.at (a₀.put ((ops₀[i₀]?).bind (·.dst)) (.tuple #[])) (.inRegion ops₀ rest₀ :: k₀)) cs) w)
    (g : Goroutine) (w : World) (h : AnchM K (b₀.at a₀ (.inRegion ops₀ (i₀ :: rest₀) :: k₀)) cs g w) :
    ∃ m, Goes K.P true (Rly K 0) (DM K) (AtW1M K (fun g w => Qe w → GoesW K.P true D S g w) (AnchM K (b₀.at a₀ (.inRegion ops₀ (i₀ :: rest₀) :: k₀)) cs)) m g w := by
  have T := termsM K
  have H : WgLib K.P wlink := by rw [hP]; exact wlib
  have rl : ∀ {w w₁}, WgLive K.ty K.Wg w → Rly K 0 w w₁ → WgLive K.ty K.Wg w₁ := fun h r => r.live h
  clear hP
  lib_facts
  obtain ⟨T8, rfl, hT84, t0, hF⟩ := h
  obtain ⟨v0, v1, v2, v3, v4, v5, v6, v7, v8, v9, v10, v11, v12, v13, v14, v15, v16, v17, v18, v19, v20, v21, v22, v23, v24, v25, v26, v27, v28, v29, v30, v31, v32, v33, v34, v35, v36, v37, v38, v39, v40, v41, v42, v43, v44, v45, v46, v47, v48, v49, v50, v51, v52, v53, v54, v55, v56, v57, v58, v59, v60, v61, v62, v63, v64, v65, v66, v67, v68, v69, v70, v71, v72, v73, v74, v75, v76, v77, v78, v79, v80, v81, v82, v83, rfl⟩ := array84 T8 hT84
  simp only [List.getElem?_toArray, List.getElem?_cons_zero, Option.some.injEq] at t0
  subst t0
  refine ⟨30, ?_⟩
  simp only [L7, body_wait, waitFn, Option.getD_some]
  refine mvS T rfl (fun _ => stepG_block) ?_
  refine mvS T rfl (fun _ => stepG_seq) ?_
  refine mvS T rfl (fun _ => stepG_region) ?_
  simp only [List.size_toArray, List.length_cons, List.length_nil, Nat.reduceAdd, Nat.zero_add, List.range, List.range.loop]
  refine mvV T _ rfl rfl (by k_ne) (fun _ => by go_simp <;> rfl) (fun _ => by simp [go_sem, *]) ?_
  walk_nrm
  try w_num
  refine mvV T _ rfl rfl (by k_ne) (fun _ => by go_simp <;> rfl) (fun _ => by simp [go_sem, *]) ?_
  walk_nrm
  try w_num
  refine mvV T _ rfl rfl (by k_ne) (fun _ => by go_simp <;> rfl) (fun _ => by simp [go_sem, *]) ?_
  walk_nrm
  try w_num
  refine mvS T rfl (fun w => stepG_callGo w rfl rfl (by k_ne) rfl H.f_uLoad (nm_uLoad wlink) rfl) ?_
  walk_nrmf uLoadFn
  refine mvS T rfl (fun _ => stepG_seq) ?_
  refine mvS T rfl (fun _ => stepG_region) ?_
  simp only [List.size_toArray, List.length_cons, List.length_nil, Nat.reduceAdd, Nat.zero_add, List.range, List.range.loop]
  refine mvV T _ rfl rfl (by k_ne) (fun _ => by go_simp <;> rfl) (fun _ => by simp [go_sem, *]) ?_
  walk_nrm
  try w_num
  refine mvS T rfl (fun _ => stepG_region_end) ?_
  refine mvS T rfl (fun _ => stepG_seq) ?_
  refine mvS T rfl (fun _ => stepG_region) ?_
  simp only [List.size_toArray, List.length_cons, List.length_nil, Nat.reduceAdd, Nat.zero_add, List.range, List.range.loop]
  refine mvV T _ rfl rfl (by k_ne) (fun _ => by go_simp <;> rfl) (fun _ => by simp [go_sem, *]) ?_
  walk_nrm
  try w_num
  refine mvV T _ rfl rfl (by k_ne) (fun _ => by go_simp <;> rfl) (fun _ => by simp [go_sem, *]) ?_
  walk_nrm
  try w_num
  refine mvV T _ rfl rfl (by k_ne) (fun _ => by go_simp <;> rfl) (fun _ => by simp [go_sem, *]) ?_
  walk_nrm
  try w_num
  refine Goes.stop (fun w₁ h₁ => ?_)
  replace hF := rl hF h₁
  clear h₁
  refine ⟨rfl, fun v hv hw => ?_⟩
  rcases Nat.eq_zero_or_pos v with rfl | hvp
  · -- THE LOAD READS 0: THE JOIN IS SEEN
    replace hw : WgAt K.ty K.Wg w₁ 0 0 := by simpa using hw
    refine ⟨_, stepG_load_atomic (v := 0) rfl rfl (by k_ne) rfl H.f_loadU64 (x_loadU64_n wlink) (x_loadU64_b wlink) (x_loadU64_x wlink) .u64 (x_loadU64_f wlink) rfl hw.cellSt, fun _ => ⟨50, ?_⟩, fun h => absurd rfl h⟩
    clear hw
    walk_nrm
    refine mvV T _ rfl rfl (by k_ne) (fun _ => by go_simp <;> rfl) (fun _ => by simp [go_sem, *]) ?_
    walk_nrm
    try w_num
    refine mvS T rfl (fun _ => stepG_region_end) ?_
    refine mvS T rfl (fun _ => stepG_ret') ?_
    refine mvS T rfl (fun w => stepG_leave1 w rfl rfl H.f_uLoad rfl) ?_
    walk_nrm
    refine mvV T _ rfl rfl (by k_ne) (fun _ => by go_simp <;> rfl) (fun _ => by simp [go_sem, *]) ?_
    walk_nrm
    try w_num
    refine mvS T rfl (fun _ => stepG_region_end) ?_
    refine mvS T rfl (fun _ => stepG_seq) ?_
    refine mvS T rfl (fun _ => stepG_region) ?_
    simp only [List.size_toArray, List.length_cons, List.length_nil, Nat.reduceAdd, Nat.zero_add, List.range, List.range.loop]
    refine mvV T _ rfl rfl (by k_ne) (fun _ => by go_simp <;> rfl) (fun _ => by simp [go_sem, *]) ?_
    walk_nrm
    try w_num
    refine mvV T _ rfl rfl (by k_ne) (fun _ => by go_simp <;> rfl) (fun _ => by simp [go_sem, *]) ?_
    walk_nrm
    try w_num
    refine mvV T _ rfl rfl (by k_ne) (fun _ => by go_simp <;> rfl) (fun _ => by simp [go_sem, *]) ?_
    walk_nrm
    try w_num
    refine mvV T _ rfl rfl (by k_ne) (fun _ => by go_simp <;> rfl) (fun _ => by simp [go_sem, *]) ?_
    walk_nrm
    try w_num
    refine mvS T rfl (fun _ => stepG_region_end) ?_
    refine mvS T rfl (fun _ => stepG_seq) ?_
    refine mvS T rfl (fun _ => stepG_region) ?_
    simp only [List.size_toArray, List.length_cons, List.length_nil, Nat.reduceAdd, Nat.zero_add, List.range, List.range.loop]
    refine mvV T _ rfl rfl (by k_ne) (fun _ => by go_simp <;> rfl) (fun _ => by simp [go_sem, *]) ?_
    walk_nrm
    try w_num
    refine mvV T _ rfl rfl (by k_ne) (fun _ => by go_simp <;> rfl) (fun _ => by simp [go_sem, *]) ?_
    walk_nrm
    try w_num
    refine mvV T _ rfl rfl (by k_ne) (fun _ => by go_simp <;> rfl) (fun _ => by simp [go_sem, *]) ?_
    walk_nrm
    try w_num
    refine mvV T _ rfl rfl (by k_ne) (fun _ => by go_simp <;> rfl) (fun _ => by simp [go_sem, *]) ?_
    walk_nrm
    try w_num
    refine mvS T rfl (fun _ => stepG_region_end) ?_
    refine mvS T rfl (fun _ => stepG_seq) ?_
    refine mvS T rfl (fun _ => stepG_seq) ?_
    refine mvS T rfl (fun _ => stepG_region) ?_
    simp only [List.size_toArray, List.length_cons, List.length_nil, Nat.reduceAdd, Nat.zero_add, List.range, List.range.loop]
    refine mvV T _ rfl rfl (by k_ne) (fun _ => by go_simp <;> rfl) (fun _ => by simp [go_sem, *]) ?_
    walk_nrm
    try w_num
    refine mvV T _ rfl rfl (by k_ne) (fun _ => by go_simp <;> rfl) (fun _ => by simp [go_sem, *]) ?_
    walk_nrm
    try w_num
    refine mvS T rfl (fun _ => stepG_region_end) ?_
    refine mvS T rfl (fun _ => stepG_cond (t := true) rfl) ?_
    simp only [if_true]
    refine mvS T rfl (fun _ => stepG_seq) ?_
    refine mvS T rfl (fun _ => stepG_cond (t := true) rfl) ?_
    simp only [if_true]
    refine mvS T rfl (fun _ => stepG_seq) ?_
    refine mvS T rfl (fun _ => stepG_region) ?_
    simp only [List.size_toArray, List.length_cons, List.length_nil, Nat.reduceAdd, Nat.zero_add, List.range, List.range.loop]
    refine Goes.stop (fun w₅ h₅ => ?_)
    replace hF := rl hF h₅
    clear h₅
    refine ⟨rfl, _, stepG_mark0 .enable (by simp) rfl rfl (by k_ne) rfl H.f_enable (x_enable_n wlink) (x_enable_b wlink) (x_enable_x wlink) (x_enable_f wlink), 12, ?_⟩
    walk_nrm
    refine mvS T rfl (fun _ => stepG_region_end) ?_
    refine mvS T rfl (fun _ => stepG_region) ?_
    simp only [List.size_toArray, List.length_cons, List.length_nil, Nat.reduceAdd, Nat.zero_add, List.range, List.range.loop]
    refine mvV T _ rfl rfl (by k_ne) (fun _ => by go_simp <;> rfl) (fun _ => by simp [go_sem, *]) ?_
    walk_nrm
    try w_num
    refine mvOp T _ rfl rfl (by k_ne) (fun w₁ h₁ => by
      have hcv := run_convert_to_unsafe (P := K.P) H.underlying_tWgP H.underlying_tUP H.room_tWg (WgLive.cell0 (rl hF h₁)).choose_spec
      go_simp <;> rfl) (fun w₁ h₁ => ⟨rfl, by
      have hce := fun es => events_convert_to_unsafe (P := K.P) H.underlying_tWgP H.underlying_tUP H.room_tWg (WgLive.cell0 (rl hF h₁)).choose_spec es
      intro ex hex
      have hmx := mem_listed hex
      simp [go_sem, hce] at hmx⟩) ?_
    walk_nrm
    refine Goes.stop (fun w₆ h₆ => ?_)
    replace hF := rl hF h₆
    clear h₆
    refine ⟨rfl, _, stepG_markAt .acquire (by simp) rfl rfl (by k_ne) rfl H.f_acquire (x_acquire_n wlink) (x_acquire_b wlink) (x_acquire_x wlink) (x_acquire_f wlink) (by simp [Act.eval, stA]), fun hQe => ?_⟩
    walk_nrm
    refine gwS hD rfl (fun _ => stepG_region_end) ?_
    refine gwS hD rfl (fun _ => stepG_seq) ?_
    refine gwS hD rfl (fun _ => stepG_seq) ?_
    refine gwS hD rfl (fun _ => stepG_region) ?_
    simp only [List.size_toArray, List.length_cons, List.length_nil, Nat.reduceAdd, Nat.zero_add, List.range, List.range.loop]
    refine gwV hD _ rfl rfl (by k_ne) (fun _ => by go_simp <;> rfl) (fun _ => by simp [go_sem, *]) ?_
    walk_nrm
    try w_num
    refine gwV hD _ rfl rfl (by k_ne) (fun _ => by go_simp <;> rfl) (fun _ => by simp [go_sem, *]) ?_
    walk_nrm
    try w_num
    refine gwV hD _ rfl rfl (by k_ne) (fun _ => by go_simp <;> rfl) (fun _ => by simp [go_sem, *]) ?_
    walk_nrm
    try w_num
    refine gwV hD _ rfl rfl (by k_ne) (fun _ => by go_simp <;> rfl) (fun _ => by simp [go_sem, *]) ?_
    walk_nrm
    try w_num
    refine gwV hD _ rfl rfl (by k_ne) (fun _ => by go_simp <;> rfl) (fun _ => by simp [go_sem, *]) ?_
    walk_nrm
    try w_num
    refine gwV hD _ rfl rfl (by k_ne) (fun _ => by go_simp <;> rfl) (fun _ => by simp [go_sem, *]) ?_
    walk_nrm
    try w_num
    refine gwV hD _ rfl rfl (by k_ne) (fun _ => by go_simp <;> rfl) (fun _ => by simp [go_sem, *]) ?_
    walk_nrm
    try w_num
    refine gwV hD _ rfl rfl (by k_ne) (fun _ => by go_simp <;> rfl) (fun _ => by simp [go_sem, *]) ?_
    walk_nrm
    try w_num
    refine gwS hD rfl (fun _ => stepG_unwanted rfl rfl) ?_
    walk_nrm
    refine gwS hD rfl (fun _ => stepG_unwanted rfl rfl) ?_
    walk_nrm
    refine gwV hD _ rfl rfl (by k_ne) (fun _ => by go_simp <;> rfl) (fun _ => by simp [go_sem, *]) ?_
    walk_nrm
    try w_num
    refine gwS hD rfl (fun _ => stepG_region_end) ?_
    refine gwS hD rfl (fun _ => stepG_cond (t := false) rfl) ?_
    simp only [Bool.false_eq_true, if_false]
    refine gwS hD rfl (fun _ => stepG_skip) ?_
    refine gwS hD rfl (fun _ => stepG_ret') ?_
    refine gwS hD rfl (fun w => stepG_leave0 w rfl rfl H.f_wait rfl) ?_
    walk_nrm
    exact hT _ hQe
  · -- THE LOAD READS v * 2^32, v > 0
    obtain ⟨S, hS⟩ : ∃ S : Int, (v : Int) * KK = S := ⟨_, rfl⟩
    have a1 : S / 4294967296 = (v : Int) := by rw [← hS]; simp only [KK]; omega
    have b1 : bits .and .u64 S 2147483648 = 0 := by rw [← hS]; have := st_flag v 0 (by omega) (by omega); simpa [KK] using this
    have b2 : bits .and .u64 S 2147483647 = 0 := by rw [← hS]; have := st_waiters v 0 (by omega) (by omega); simpa [KK] using this
    have c1 : IntKind.i32.wrap (v : Int) = (v : Int) := by rw [IntKind.wrap_i32]; omega
    have w1 : IntKind.u64.wrap (S + 1) = S + 1 := by rw [IntKind.wrap_u64, ← hS]; simp only [KK]; omega
    have q3 : decide ((v : Int) < 0) = false := decide_eq_false (by omega)
    have q4 : decide (0 < (v : Int)) = true := decide_eq_true (by omega)
    have q5 : ((v : Int) == 0) = false := by simp; omega
    have q6 : decide ((v : Int) = 0) = false := decide_eq_false (by omega)
    rw [hS] at hw
    refine ⟨_, stepG_load_atomic (v := S) rfl rfl (by k_ne) rfl H.f_loadU64 (x_loadU64_n wlink) (x_loadU64_b wlink) (x_loadU64_x wlink) .u64 (x_loadU64_f wlink) rfl hw.cellSt, fun h0 => absurd h0 (by omega), fun _ => ⟨60, ?_⟩⟩
    clear hw
    walk_nrm
    refine mvV T _ rfl rfl (by k_ne) (fun _ => by go_simp <;> rfl) (fun _ => by simp [go_sem, *]) ?_
    walk_nrm
    try w_num
    refine mvS T rfl (fun _ => stepG_region_end) ?_
    refine mvS T rfl (fun _ => stepG_ret') ?_
    refine mvS T rfl (fun w => stepG_leave1 w rfl rfl H.f_uLoad rfl) ?_
    walk_nrm
    refine mvV T _ rfl rfl (by k_ne) (fun _ => by go_simp <;> rfl) (fun _ => by simp [go_sem, *]) ?_
    walk_nrm
    try w_num
    refine mvS T rfl (fun _ => stepG_region_end) ?_
    refine mvS T rfl (fun _ => stepG_seq) ?_
    refine mvS T rfl (fun _ => stepG_region) ?_
    simp only [List.size_toArray, List.length_cons, List.length_nil, Nat.reduceAdd, Nat.zero_add, List.range, List.range.loop]
    refine mvV T _ rfl rfl (by k_ne) (fun _ => by go_simp <;> rfl) (fun _ => by simp [go_sem, *]) ?_
    walk_nrm
    try w_num
    refine mvV T _ rfl rfl (by k_ne) (fun _ => by go_simp <;> rfl) (fun _ => by simp [go_sem, *]) ?_
    walk_nrm
    try w_num
    refine mvV T _ rfl rfl (by k_ne) (fun _ => by go_simp <;> rfl) (fun _ => by simp [go_sem, *]) ?_
    walk_nrm
    try w_num
    refine mvV T _ rfl rfl (by k_ne) (fun _ => by go_simp <;> rfl) (fun _ => by simp [go_sem, *]) ?_
    walk_nrm
    try w_num
    refine mvS T rfl (fun _ => stepG_region_end) ?_
    refine mvS T rfl (fun _ => stepG_seq) ?_
    refine mvS T rfl (fun _ => stepG_region) ?_
    simp only [List.size_toArray, List.length_cons, List.length_nil, Nat.reduceAdd, Nat.zero_add, List.range, List.range.loop]
    refine mvV T _ rfl rfl (by k_ne) (fun _ => by go_simp <;> rfl) (fun _ => by simp [go_sem, *]) ?_
    walk_nrm
    try w_num
    refine mvV T _ rfl rfl (by k_ne) (fun _ => by go_simp <;> rfl) (fun _ => by simp [go_sem, *]) ?_
    walk_nrm
    try w_num
    refine mvV T _ rfl rfl (by k_ne) (fun _ => by go_simp <;> rfl) (fun _ => by simp [go_sem, *]) ?_
    walk_nrm
    try w_num
    refine mvV T _ rfl rfl (by k_ne) (fun _ => by go_simp <;> rfl) (fun _ => by simp [go_sem, *]) ?_
    walk_nrm
    try w_num
    refine mvS T rfl (fun _ => stepG_region_end) ?_
    refine mvS T rfl (fun _ => stepG_seq) ?_
    refine mvS T rfl (fun _ => stepG_seq) ?_
    refine mvS T rfl (fun _ => stepG_region) ?_
    simp only [List.size_toArray, List.length_cons, List.length_nil, Nat.reduceAdd, Nat.zero_add, List.range, List.range.loop]
    refine mvV T _ rfl rfl (by k_ne) (fun _ => by go_simp <;> rfl) (fun _ => by simp [go_sem, *]) ?_
    walk_nrm
    try w_num
    refine mvV T _ rfl rfl (by k_ne) (fun _ => by go_simp <;> rfl) (fun _ => by simp [go_sem, *]) ?_
    walk_nrm
    try w_num
    refine mvS T rfl (fun _ => stepG_region_end) ?_
    refine mvS T rfl (fun _ => stepG_cond (t := false) (by first | rfl | (simp [Act.eval]; omega))) ?_
    simp only [Bool.false_eq_true, if_false]
    refine mvS T rfl (fun _ => stepG_skip) ?_
    refine mvS T rfl (fun _ => stepG_seq) ?_
    refine mvS T rfl (fun _ => stepG_region) ?_
    simp only [List.size_toArray, List.length_cons, List.length_nil, Nat.reduceAdd, Nat.zero_add, List.range, List.range.loop]
    refine mvV T _ rfl rfl (by k_ne) (fun _ => by go_simp <;> rfl) (fun _ => by simp [go_sem, *]) ?_
    walk_nrm
    try w_num
    refine mvV T _ rfl rfl (by k_ne) (fun _ => by go_simp <;> rfl) (fun _ => by simp [go_sem, *]) ?_
    walk_nrm
    try w_num
    refine mvV T _ rfl rfl (by k_ne) (fun _ => by go_simp <;> rfl) (fun _ => by simp [go_sem, *]) ?_
    walk_nrm
    try w_num
    refine mvV T _ rfl rfl (by k_ne) (fun _ => by go_simp <;> rfl) (fun _ => by simp [go_sem, *]) ?_
    walk_nrm
    try w_num
    refine mvV T _ rfl rfl (by k_ne) (fun _ => by go_simp <;> rfl) (fun _ => by simp [go_sem, *]) ?_
    walk_nrm
    try w_num
    refine mvV T _ rfl rfl (by k_ne) (fun _ => by go_simp <;> rfl) (fun _ => by simp [go_sem, *]) ?_
    walk_nrm
    try w_num
    refine mvS T rfl (fun w => stepG_callGo w rfl rfl (by k_ne) rfl H.f_uCas (nm_uCas wlink) rfl) ?_
    walk_nrmf uCasFn
    refine mvS T rfl (fun _ => stepG_seq) ?_
    refine mvS T rfl (fun _ => stepG_region) ?_
    simp only [List.size_toArray, List.length_cons, List.length_nil, Nat.reduceAdd, Nat.zero_add, List.range, List.range.loop]
    refine mvV T _ rfl rfl (by k_ne) (fun _ => by go_simp <;> rfl) (fun _ => by simp [go_sem, *]) ?_
    walk_nrm
    try w_num
    refine mvS T rfl (fun _ => stepG_region_end) ?_
    refine mvS T rfl (fun _ => stepG_seq) ?_
    refine mvS T rfl (fun _ => stepG_region) ?_
    simp only [List.size_toArray, List.length_cons, List.length_nil, Nat.reduceAdd, Nat.zero_add, List.range, List.range.loop]
    refine mvV T _ rfl rfl (by k_ne) (fun _ => by go_simp <;> rfl) (fun _ => by simp [go_sem, *]) ?_
    walk_nrm
    try w_num
    refine mvV T _ rfl rfl (by k_ne) (fun _ => by go_simp <;> rfl) (fun _ => by simp [go_sem, *]) ?_
    walk_nrm
    try w_num
    refine mvV T _ rfl rfl (by k_ne) (fun _ => by go_simp <;> rfl) (fun _ => by simp [go_sem, *]) ?_
    walk_nrm
    try w_num
    refine mvV T _ rfl rfl (by k_ne) (fun _ => by go_simp <;> rfl) (fun _ => by simp [go_sem, *]) ?_
    walk_nrm
    try w_num
    refine mvV T _ rfl rfl (by k_ne) (fun _ => by go_simp <;> rfl) (fun _ => by simp [go_sem, *]) ?_
    walk_nrm
    try w_num
    refine Goes.stop (fun w₂ h₂ => ?_)
    replace hF := rl hF h₂
    clear h₂
    refine ⟨rfl, fun v' hv' hw => ⟨fun e => ?_, fun e => ?_⟩⟩
    · -- THE CompareAndSwap HITS: REGISTERED
      subst e
      rw [hS] at hw ⊢
      refine ⟨_, (stepG_cas_hit (v := S) (n := S + 1) rfl rfl (by k_ne) rfl H.f_casU64 (x_casU64_n wlink) (x_casU64_b wlink) (x_casU64_x wlink) .u64 (x_casU64_f wlink) rfl rfl rfl hw.cellSt (hw.thaw 0)).trans (by rfl), 70, ?_⟩
      replace hF : WgLive K.ty K.Wg (w₂.setCell (stA K.Wg) (.int .u64 (S + 1))) := ⟨_, _, hw.setSt _⟩
      clear hw
      walk_nrm
      refine mvV T _ rfl rfl (by k_ne) (fun _ => by go_simp <;> rfl) (fun _ => by simp [go_sem, *]) ?_
      walk_nrm
      try w_num
      refine mvS T rfl (fun _ => stepG_region_end) ?_
      refine mvS T rfl (fun _ => stepG_ret') ?_
      refine mvS T rfl (fun w => stepG_leave1 w rfl rfl H.f_uCas rfl) ?_
      walk_nrm
      refine mvS T rfl (fun _ => stepG_region_end) ?_
      refine mvS T rfl (fun _ => stepG_cond (t := true) rfl) ?_
      simp only [if_true]
      refine mvS T rfl (fun _ => stepG_seq) ?_
      refine mvS T rfl (fun _ => stepG_seq) ?_
      refine mvS T rfl (fun _ => stepG_region) ?_
      simp only [List.size_toArray, List.length_cons, List.length_nil, Nat.reduceAdd, Nat.zero_add, List.range, List.range.loop]
      refine mvV T _ rfl rfl (by k_ne) (fun _ => by go_simp <;> rfl) (fun _ => by simp [go_sem, *]) ?_
      walk_nrm
      try w_num
      refine mvV T _ rfl rfl (by k_ne) (fun _ => by go_simp <;> rfl) (fun _ => by simp [go_sem, *]) ?_
      walk_nrm
      try w_num
      refine mvV T _ rfl rfl (by k_ne) (fun _ => by go_simp <;> rfl) (fun _ => by simp [go_sem, *]) ?_
      walk_nrm
      try w_num
      refine mvV T _ rfl rfl (by k_ne) (fun _ => by go_simp <;> rfl) (fun _ => by simp [go_sem, *]) ?_
      walk_nrm
      try w_num
      refine mvS T rfl (fun _ => stepG_region_end) ?_
      refine mvS T rfl (fun _ => stepG_cond (t := true) rfl) ?_
      simp only [if_true]
      refine mvS T rfl (fun _ => stepG_region) ?_
      simp only [List.size_toArray, List.length_cons, List.length_nil, Nat.reduceAdd, Nat.zero_add, List.range, List.range.loop]
      refine mvV T _ rfl rfl (by k_ne) (fun _ => by go_simp <;> rfl) (fun _ => by simp [go_sem, *]) ?_
      walk_nrm
      try w_num
      refine mvV T _ rfl rfl (by k_ne) (fun _ => by go_simp <;> rfl) (fun _ => by simp [go_sem, *]) ?_
      walk_nrm
      try w_num
      refine mvV T _ rfl rfl (by k_ne) (fun _ => by go_simp <;> rfl) (fun _ => by simp [go_sem, *]) ?_
      walk_nrm
      try w_num
      refine mvOp T _ rfl rfl (by k_ne) (fun w₁ h₁ => by
        have hcv := run_convert_to_unsafe (P := K.P) H.underlying_tPU32 H.underlying_tUP H.room_tU32 (WgLive.cell1 (rl hF h₁)).choose_spec
        go_simp <;> rfl) (fun w₁ h₁ => ⟨rfl, by
        have hce := fun es => events_convert_to_unsafe (P := K.P) H.underlying_tPU32 H.underlying_tUP H.room_tU32 (WgLive.cell1 (rl hF h₁)).choose_spec es
        intro ex hex
        have hmx := mem_listed hex
        simp [go_sem, hce] at hmx⟩) ?_
      walk_nrm
      refine mv T rfl (fun w₁ _ => ⟨_, stepG_markAt .write (by simp) rfl rfl (by k_ne) rfl H.f_raceWrite (x_raceWrite_n wlink) (x_raceWrite_b wlink) (x_raceWrite_x wlink) (x_raceWrite_f wlink) (ad := smA K.Wg) (by simp [Act.eval, smA]), rfl, evM_said⟩) ?_
      refine mvS T rfl (fun _ => stepG_region_end) ?_
      refine mvS T rfl (fun _ => stepG_seq) ?_
      refine mvS T rfl (fun _ => stepG_region) ?_
      simp only [List.size_toArray, List.length_cons, List.length_nil, Nat.reduceAdd, Nat.zero_add, List.range, List.range.loop]
      refine mvV T _ rfl rfl (by k_ne) (fun _ => by go_simp <;> rfl) (fun _ => by simp [go_sem, *]) ?_
      walk_nrm
      try w_num
      refine mvS T rfl (fun _ => stepG_region_end) ?_
      refine mvS T rfl (fun _ => stepG_seq) ?_
      refine mvS T rfl (fun _ => stepG_seq) ?_
      refine mvS T rfl (fun _ => stepG_region) ?_
      simp only [List.size_toArray, List.length_cons, List.length_nil, Nat.reduceAdd, Nat.zero_add, List.range, List.range.loop]
      refine mvV T _ rfl rfl (by k_ne) (fun _ => by go_simp <;> rfl) (fun _ => by simp [go_sem, *]) ?_
      walk_nrm
      try w_num
      refine mvV T _ rfl rfl (by k_ne) (fun _ => by go_simp <;> rfl) (fun _ => by simp [go_sem, *]) ?_
      walk_nrm
      try w_num
      refine mvV T _ rfl rfl (by k_ne) (fun _ => by go_simp <;> rfl) (fun _ => by simp [go_sem, *]) ?_
      walk_nrm
      try w_num
      refine mvV T _ rfl rfl (by k_ne) (fun _ => by go_simp <;> rfl) (fun _ => by simp [go_sem, *]) ?_
      walk_nrm
      try w_num
      refine mvS T rfl (fun _ => stepG_unwanted rfl rfl) ?_
      walk_nrm
      refine mvV T _ rfl rfl (by k_ne) (fun _ => by go_simp <;> rfl) (fun _ => by simp [go_sem, *]) ?_
      walk_nrm
      try w_num
      refine mvS T rfl (fun _ => stepG_region_end) ?_
      refine mvS T rfl (fun _ => stepG_cond (t := false) rfl) ?_
      simp only [Bool.false_eq_true, if_false]
      refine mvS T rfl (fun _ => stepG_skip) ?_
      refine mvS T rfl (fun _ => stepG_seq) ?_
      refine mvS T rfl (fun _ => stepG_region) ?_
      simp only [List.size_toArray, List.length_cons, List.length_nil, Nat.reduceAdd, Nat.zero_add, List.range, List.range.loop]
      refine mvV T _ rfl rfl (by k_ne) (fun _ => by go_simp <;> rfl) (fun _ => by simp [go_sem, *]) ?_
      walk_nrm
      try w_num
      refine mvV T _ rfl rfl (by k_ne) (fun _ => by go_simp <;> rfl) (fun _ => by simp [go_sem, *]) ?_
      walk_nrm
      try w_num
      refine mvV T _ rfl rfl (by k_ne) (fun _ => by go_simp <;> rfl) (fun _ => by simp [go_sem, *]) ?_
      walk_nrm
      try w_num
      refine mvV T _ rfl rfl (by k_ne) (fun _ => by go_simp <;> rfl) (fun _ => by simp [go_sem, *]) ?_
      walk_nrm
      try w_num
      refine Goes.stop (fun w₃ h₃ => ?_)
      replace hF := rl hF h₃
      clear h₃
      refine ⟨rfl, rfl, fun ⟨st, hw⟩ => stepG_semacquire_wait rfl rfl rfl H.f_semacquire (x_semacquire_n wlink) (x_semacquire_b wlink) (x_semacquire_x wlink) (x_semacquire_f wlink) (by simp [Act.eval, smA]) hw.cellSm, fun hf => ?_⟩
      refine ⟨_, (stepG_semacquire (n := 1) rfl rfl (by k_ne) rfl H.f_semacquire (x_semacquire_n wlink) (x_semacquire_b wlink) (x_semacquire_x wlink) (x_semacquire_f wlink) (by simp [Act.eval, smA]) hf.cellSm (by k_ne) (hf.thaw 1)).trans (by rfl), 30, ?_⟩
      replace hF : WgLive K.ty K.Wg (w₃.setCell (smA K.Wg) (.int .u32 0)) := ⟨_, _, hf.setSm 0⟩
      clear hf
      walk_nrm
      refine mvS T rfl (fun _ => stepG_region_end) ?_
      refine mvS T rfl (fun _ => stepG_seq) ?_
      refine mvS T rfl (fun _ => stepG_region) ?_
      simp only [List.size_toArray, List.length_cons, List.length_nil, Nat.reduceAdd, Nat.zero_add, List.range, List.range.loop]
      refine mvV T _ rfl rfl (by k_ne) (fun _ => by go_simp <;> rfl) (fun _ => by simp [go_sem, *]) ?_
      walk_nrm
      try w_num
      refine mvV T _ rfl rfl (by k_ne) (fun _ => by go_simp <;> rfl) (fun _ => by simp [go_sem, *]) ?_
      walk_nrm
      try w_num
      refine mvV T _ rfl rfl (by k_ne) (fun _ => by go_simp <;> rfl) (fun _ => by simp [go_sem, *]) ?_
      walk_nrm
      try w_num
      refine mvS T rfl (fun w => stepG_callGo w rfl rfl (by k_ne) rfl H.f_uLoad (nm_uLoad wlink) rfl) ?_
      walk_nrmf uLoadFn
      refine mvS T rfl (fun _ => stepG_seq) ?_
      refine mvS T rfl (fun _ => stepG_region) ?_
      simp only [List.size_toArray, List.length_cons, List.length_nil, Nat.reduceAdd, Nat.zero_add, List.range, List.range.loop]
      refine mvV T _ rfl rfl (by k_ne) (fun _ => by go_simp <;> rfl) (fun _ => by simp [go_sem, *]) ?_
      walk_nrm
      try w_num
      refine mvS T rfl (fun _ => stepG_region_end) ?_
      refine mvS T rfl (fun _ => stepG_seq) ?_
      refine mvS T rfl (fun _ => stepG_region) ?_
      simp only [List.size_toArray, List.length_cons, List.length_nil, Nat.reduceAdd, Nat.zero_add, List.range, List.range.loop]
      refine mvV T _ rfl rfl (by k_ne) (fun _ => by go_simp <;> rfl) (fun _ => by simp [go_sem, *]) ?_
      walk_nrm
      try w_num
      refine mvV T _ rfl rfl (by k_ne) (fun _ => by go_simp <;> rfl) (fun _ => by simp [go_sem, *]) ?_
      walk_nrm
      try w_num
      refine mvV T _ rfl rfl (by k_ne) (fun _ => by go_simp <;> rfl) (fun _ => by simp [go_sem, *]) ?_
      walk_nrm
      try w_num
      refine Goes.stop (fun w₄ h₄ => ?_)
      replace hF := rl hF h₄
      clear h₄
      refine ⟨rfl, fun hw => ⟨_, stepG_load_atomic (v := 0) rfl rfl (by k_ne) rfl H.f_loadU64 (x_loadU64_n wlink) (x_loadU64_b wlink) (x_loadU64_x wlink) .u64 (x_loadU64_f wlink) rfl hw.cellSt, 30, ?_⟩⟩
      clear hw
      walk_nrm
      refine mvV T _ rfl rfl (by k_ne) (fun _ => by go_simp <;> rfl) (fun _ => by simp [go_sem, *]) ?_
      walk_nrm
      try w_num
      refine mvS T rfl (fun _ => stepG_region_end) ?_
      refine mvS T rfl (fun _ => stepG_ret') ?_
      refine mvS T rfl (fun w => stepG_leave1 w rfl rfl H.f_uLoad rfl) ?_
      walk_nrm
      refine mvV T _ rfl rfl (by k_ne) (fun _ => by go_simp <;> rfl) (fun _ => by simp [go_sem, *]) ?_
      walk_nrm
      try w_num
      refine mvV T _ rfl rfl (by k_ne) (fun _ => by go_simp <;> rfl) (fun _ => by simp [go_sem, *]) ?_
      walk_nrm
      try w_num
      refine mvS T rfl (fun _ => stepG_region_end) ?_
      refine mvS T rfl (fun _ => stepG_seq) ?_
      refine mvS T rfl (fun _ => stepG_cond (t := true) rfl) ?_
      simp only [if_true]
      refine mvS T rfl (fun _ => stepG_seq) ?_
      refine mvS T rfl (fun _ => stepG_region) ?_
      simp only [List.size_toArray, List.length_cons, List.length_nil, Nat.reduceAdd, Nat.zero_add, List.range, List.range.loop]
      refine Goes.stop (fun w₅ h₅ => ?_)
      replace hF := rl hF h₅
      clear h₅
      refine ⟨rfl, _, stepG_mark0 .enable (by simp) rfl rfl (by k_ne) rfl H.f_enable (x_enable_n wlink) (x_enable_b wlink) (x_enable_x wlink) (x_enable_f wlink), 12, ?_⟩
      walk_nrm
      refine mvS T rfl (fun _ => stepG_region_end) ?_
      refine mvS T rfl (fun _ => stepG_region) ?_
      simp only [List.size_toArray, List.length_cons, List.length_nil, Nat.reduceAdd, Nat.zero_add, List.range, List.range.loop]
      refine mvV T _ rfl rfl (by k_ne) (fun _ => by go_simp <;> rfl) (fun _ => by simp [go_sem, *]) ?_
      walk_nrm
      try w_num
      refine mvOp T _ rfl rfl (by k_ne) (fun w₁ h₁ => by
        have hcv := run_convert_to_unsafe (P := K.P) H.underlying_tWgP H.underlying_tUP H.room_tWg (WgLive.cell0 (rl hF h₁)).choose_spec
        go_simp <;> rfl) (fun w₁ h₁ => ⟨rfl, by
        have hce := fun es => events_convert_to_unsafe (P := K.P) H.underlying_tWgP H.underlying_tUP H.room_tWg (WgLive.cell0 (rl hF h₁)).choose_spec es
        intro ex hex
        have hmx := mem_listed hex
        simp [go_sem, hce] at hmx⟩) ?_
      walk_nrm
      refine Goes.stop (fun w₆ h₆ => ?_)
      replace hF := rl hF h₆
      clear h₆
      refine ⟨rfl, _, stepG_markAt .acquire (by simp) rfl rfl (by k_ne) rfl H.f_acquire (x_acquire_n wlink) (x_acquire_b wlink) (x_acquire_x wlink) (x_acquire_f wlink) (by simp [Act.eval, stA]), fun hQe => ?_⟩
      walk_nrm
      refine gwS hD rfl (fun _ => stepG_region_end) ?_
      refine gwS hD rfl (fun _ => stepG_seq) ?_
      refine gwS hD rfl (fun _ => stepG_seq) ?_
      refine gwS hD rfl (fun _ => stepG_region) ?_
      simp only [List.size_toArray, List.length_cons, List.length_nil, Nat.reduceAdd, Nat.zero_add, List.range, List.range.loop]
      refine gwV hD _ rfl rfl (by k_ne) (fun _ => by go_simp <;> rfl) (fun _ => by simp [go_sem, *]) ?_
      walk_nrm
      try w_num
      refine gwS hD rfl (fun _ => stepG_region_end) ?_
      refine gwS hD rfl (fun _ => stepG_cond (t := false) rfl) ?_
      simp only [Bool.false_eq_true, if_false]
      refine gwS hD rfl (fun _ => stepG_skip) ?_
      refine gwS hD rfl (fun _ => stepG_ret') ?_
      refine gwS hD rfl (fun w => stepG_leave0 w rfl rfl H.f_wait rfl) ?_
      walk_nrm
      exact hT _ hQe
    · -- IT MISSES: BACK TO THE LOOP's HEAD
      refine ⟨_, stepG_cas_miss (v := (v' : Int) * KK) (old := S) (n := S + 1) rfl rfl (by k_ne) rfl H.f_casU64 (x_casU64_n wlink) (x_casU64_b wlink) (x_casU64_x wlink) .u64 (x_casU64_f wlink) rfl rfl rfl hw.cellSt (hw.thaw 0) (by rw [← hS]; simp only [KK]; omega), 20, ?_⟩
      clear hw
      walk_nrm
      refine mvV T _ rfl rfl (by k_ne) (fun _ => by go_simp <;> rfl) (fun _ => by simp [go_sem, *]) ?_
      walk_nrm
      try w_num
      refine mvS T rfl (fun _ => stepG_region_end) ?_
      refine mvS T rfl (fun _ => stepG_ret') ?_
      refine mvS T rfl (fun w => stepG_leave1 w rfl rfl H.f_uCas rfl) ?_
      walk_nrm
      refine mvS T rfl (fun _ => stepG_region_end) ?_
      refine mvS T rfl (fun _ => stepG_cond (t := false) rfl) ?_
      simp only [Bool.false_eq_true, if_false]
      refine mvS T rfl (fun _ => stepG_skip) ?_
      refine mvS T rfl (fun _ => stepG_inBlock) ?_
      refine mvS T rfl (fun _ => stepG_inLoop) ?_
      refine Goes.stop (fun w₃ h₃ => ?_)
      replace hF := rl hF h₃
      exact ⟨_, rfl, by simp, by simp, hF⟩

set_option maxRecDepth 100000 in
/-- FROM Wait's ENTRY. -/
theorem wait_start (hP : K.P = Try.prog) {c : Frame} (w : World) (hF : WgLive K.ty K.Wg w) :
    Goes K.P true (Rly K 0) (DM K) (AtKdM K (AnchM K c cs)) 3 (G ((base wlink.wait).at ⟨#[.pointer (some ⟨K.Wg, 0, none⟩), undef, undef, undef, undef, undef, undef, undef, undef, undef, undef, undef, undef, undef, undef, undef, undef, undef, undef, undef, undef, undef, undef, undef, undef, undef, undef, undef, undef, undef, undef, undef, undef, undef, undef, undef, undef, undef, undef, undef, undef, undef, undef, undef, undef, undef, undef, undef, undef, undef, undef, undef, undef, undef, undef, undef, undef, undef, undef, undef, undef, undef, undef, undef, undef, undef, undef, undef, undef, undef, undef, undef, undef, undef, undef, undef, undef, undef, undef, undef, undef, undef, undef, undef], []⟩ [.code (body_wait wlink)]) (c :: cs)) w := by
  have T := termsM K
  have H : WgLib K.P wlink := by rw [hP]; exact wlib
  clear hP
  lib_facts
  simp only [body_wait, waitFn, Option.getD_some]
  refine mvS T rfl (fun _ => stepG_seq) ?_
  refine mvS T rfl (fun _ => stepG_cond (t := true) rfl) ?_
  simp only [if_true]
  refine mvS T rfl (fun _ => stepG_region) ?_
  simp only [List.size_toArray, List.length_cons, List.length_nil, Nat.reduceAdd, Nat.zero_add, List.range, List.range.loop]
  refine Goes.stop (fun w₁ h₁ => ?_)
  replace hF := h₁.live hF
  refine ⟨rfl, _, stepG_mark0 .disable (by simp) rfl rfl (by k_ne) rfl H.f_disable (x_disable_n wlink) (x_disable_b wlink) (x_disable_x wlink) (x_disable_f wlink), 3, ?_⟩
  walk_nrm
  refine mvS T rfl (fun _ => stepG_region_end) ?_
  refine mvS T rfl (fun _ => stepG_block) ?_
  refine mvS T rfl (fun _ => stepG_loop) ?_
  exact Goes.stop (fun w₂ h₂ => ⟨_, rfl, by simp, by simp, h₂.live hF⟩)
end
end Go.Proofs.Ytmoajpkgdimdaaa
