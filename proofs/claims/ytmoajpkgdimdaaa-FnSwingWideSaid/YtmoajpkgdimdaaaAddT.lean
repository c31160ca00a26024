/- (*sync.WaitGroup).Add(3), made alone. -/
import Derived.Test.YtmoajpkgdimdaaaWaitM
set_option linter.unusedSectionVars false
set_option linter.unusedVariables false
set_option linter.unusedSimpArgs false
namespace Go.Proofs.Ytmoajpkgdimdaaa
open Go.Conc Go.ConcN Go.ConcN.Gen Go.RowKit Go.Conc.Lib Go.ConcR.Gen
open Go.ConcR (KK wgBlock WgAt stA smA rd wr mk Payload)

/-- What goroutine 0 may list while it is alone: none of the marks that count here. -/
def NoM (e : Event) : Prop := e.loc ≠ .mark .disable ∧ e.loc ≠ .mark .enable ∧ ∀ a, e.loc ≠ .mark (.release a)
def DS (_ _ : World) (es : Array Event) : Prop := ∀ e ∈ es, NoM e
theorem ds0 : ∀ w, DS w w #[] := fun _ e he => by simp at he
/-- It stands at a mark. -/
def AtMk (P : Program) (m : Mark) (Next : Goroutine → World → Prop) (g : Goroutine) (w : World) : Prop := g.status = .running ∧ ∃ g', stepG P true g w = .go g' w #[mk m] ∧ Next g' w
section
variable {Wg : Nat} {b₀ : Frame} {a₀ : Act} {ops₀ : Array Oper} {i₀ : Nat} {rest₀ : List Nat} {k₀ : List Item} {cs : List Frame} {S : Goroutine → World → Prop}
theorem gwVd {P : Program} {main : Bool} {D : World → World → Array Event → Prop} {b : Frame} {a : Act} {ops : Array Oper} {i : Nat} {rest : List Nat} {k : List Item} {cs : List Frame} {S : Goroutine → World → Prop} {w : World}
    (hD : ∀ w, D w w #[]) {o : Oper} (v : Value) (ho : ops[i]? = some o) (hw : Region.wanted o (yielded ops a.tmps) = true) (hk : b.kind ≠ .early)
    (hr : ∀ d, (execOp a.eval o).run P (w.at d) = .ok (.value v) (w.at d)) (he : ∀ d, (execOp a.eval o).events P (w.at d) #[] = #[]) (next : GoesW P main D S (G (b.at (a.put o.dst v) (.inRegion ops rest :: k)) cs) w) :
    GoesW P main D S (G (b.at a (.inRegion ops (i :: rest) :: k)) cs) w :=
  GoesW.mk rfl fun d => ⟨_, _, _, (by rw [stepG_value ho hw hk (hr d), listed_nil (he d)]), hD _, GoesW.at next d⟩
theorem ds_rw : ∀ e ∈ #[(⟨.cell (stA Wg), false, true⟩ : Event), ⟨.cell (stA Wg), true, true⟩], NoM e := by
  intro e he
  simp at he
  rcases he with rfl | rfl <;> exact ⟨by simp, by simp, by simp⟩
theorem ds_rd : ∀ e ∈ #[(⟨.mark (.read (smA Wg)), false, true⟩ : Event)], NoM e := by
  intro e he
  simp at he
  subst he
  exact ⟨by simp, by simp, by simp⟩
set_option maxRecDepth 100000 in
set_option maxHeartbeats 8000000 in
theorem add3 (w : World) (hw : WgAt wlink.tWg Wg w 0 0) (hT : GoesW Try.prog true DS S (G (b₀.at (a₀.put ((ops₀[i₀]?).bind (·.dst)) (.tuple #[])) (.inRegion ops₀ rest₀ :: k₀)) cs) (w.setCell (stA Wg) (.int .u64 (3 * KK)))) :
    GoesW Try.prog true DS (AtMk Try.prog .disable (GoesW Try.prog true DS (AtMk Try.prog .enable (GoesW Try.prog true DS S))))
      (G ((base wlink.add).at ⟨#[.pointer (some ⟨Wg, 0, none⟩), .int .i64 3, undef, undef, undef, undef, undef, undef, undef, undef, undef, undef, undef, undef, undef, undef, undef, undef, undef, undef, undef, undef, undef, undef, undef, undef, undef, undef, undef, undef, undef, undef, undef, undef, undef, undef, undef, undef, undef, undef, undef, undef, undef, undef, undef, undef, undef, undef, undef, undef, undef, undef, undef, undef, undef, undef, undef, undef, undef, undef, undef, undef, undef, undef, undef, undef, undef, undef, undef, undef, undef, undef, undef, undef, undef, undef, undef, undef, undef, undef, undef, undef, undef, undef, undef, undef, undef, undef, undef, undef, undef, undef, undef, undef, undef, undef, undef, undef, undef, undef, undef, undef, undef, undef, undef, undef, undef, undef, undef, undef, undef, undef, undef, undef, undef, undef, undef], []⟩ [.code (body_add wlink)]) (b₀.at a₀ (.inRegion ops₀ (i₀ :: rest₀) :: k₀) :: cs)) w := by
  have H := wlib
  generalize Try.prog = PP at H hT ⊢
  have hD := ds0
  lib_facts
  simp only [body_add, addFn, Option.getD_some]
  refine gwS hD rfl (fun _ => stepG_seq) ?_
  refine gwS hD rfl (fun _ => stepG_cond (t := true) rfl) ?_
  simp only [if_true]
  refine gwS hD rfl (fun _ => stepG_seq) ?_
  refine gwS hD rfl (fun _ => stepG_seq) ?_
  refine gwS hD rfl (fun _ => stepG_region) ?_
  simp only [List.size_toArray, List.length_cons, List.length_nil, Nat.reduceAdd, Nat.zero_add, List.range, List.range.loop]
  refine gwV hD _ rfl rfl (by k_ne) (fun _ => by go_simp <;> rfl) (fun _ => by first | (simp [go_sem, *]; done) | rfl | (simp [go_sem, *, show bits .and .u64 12884901888 2147483647 = 0 from by decide]; done)) ?_
  walk_nrm
  try w_num
  refine gwV hD _ rfl rfl (by k_ne) (fun _ => by go_simp <;> rfl) (fun _ => by first | (simp [go_sem, *]; done) | rfl | (simp [go_sem, *, show bits .and .u64 12884901888 2147483647 = 0 from by decide]; done)) ?_
  walk_nrm
  try w_num
  refine gwS hD rfl (fun _ => stepG_region_end) ?_
  refine gwS hD rfl (fun _ => stepG_cond (t := false) rfl) ?_
  simp only [Bool.false_eq_true, if_false]
  refine gwS hD rfl (fun _ => stepG_skip) ?_
  refine gwS hD rfl (fun _ => stepG_seq) ?_
  refine gwS hD rfl (fun _ => stepG_region) ?_
  simp only [List.size_toArray, List.length_cons, List.length_nil, Nat.reduceAdd, Nat.zero_add, List.range, List.range.loop]
  refine GoesW.stop (fun d => ?_)
  refine ⟨rfl, _, stepG_mark0 .disable (by simp) rfl rfl (by k_ne) rfl H.f_disable (x_disable_n wlink) (x_disable_b wlink) (x_disable_x wlink) (x_disable_f wlink), GoesW.at ?_ d⟩
  walk_nrm
  refine gwS hD rfl (fun _ => stepG_region_end) ?_
  refine gwS hD rfl (fun _ => stepG_region) ?_
  simp only [List.size_toArray, List.length_cons, List.length_nil, Nat.reduceAdd, Nat.zero_add, List.range, List.range.loop]
  refine gwS hD rfl (fun _ => stepG_defer rfl rfl (by k_ne) rfl) ?_
  walk_nrm
  refine gwS hD rfl (fun _ => stepG_region_end) ?_
  refine gwS hD rfl (fun _ => stepG_seq) ?_
  refine gwS hD rfl (fun _ => stepG_region) ?_
  simp only [List.size_toArray, List.length_cons, List.length_nil, Nat.reduceAdd, Nat.zero_add, List.range, List.range.loop]
  refine gwV hD _ rfl rfl (by k_ne) (fun _ => by go_simp <;> rfl) (fun _ => by first | (simp [go_sem, *]; done) | rfl | (simp [go_sem, *, show bits .and .u64 12884901888 2147483647 = 0 from by decide]; done)) ?_
  walk_nrm
  try w_num
  refine gwS hD rfl (fun _ => stepG_region_end) ?_
  refine gwS hD rfl (fun _ => stepG_seq) ?_
  refine gwS hD rfl (fun _ => stepG_seq) ?_
  refine gwS hD rfl (fun _ => stepG_region) ?_
  simp only [List.size_toArray, List.length_cons, List.length_nil, Nat.reduceAdd, Nat.zero_add, List.range, List.range.loop]
  refine gwS hD rfl (fun _ => stepG_entry_pure (.bool false) rfl rfl (by k_ne) rfl H.f_inBubble (x_inBubble_n wlink) (x_inBubble_b wlink) (x_inBubble_x wlink) (x_inBubble_f wlink)) ?_
  walk_nrm
  refine gwS hD rfl (fun _ => stepG_region_end) ?_
  refine gwS hD rfl (fun _ => stepG_cond (t := false) rfl) ?_
  simp only [Bool.false_eq_true, if_false]
  refine gwS hD rfl (fun _ => stepG_skip) ?_
  refine gwS hD rfl (fun _ => stepG_seq) ?_
  refine gwS hD rfl (fun _ => stepG_region) ?_
  simp only [List.size_toArray, List.length_cons, List.length_nil, Nat.reduceAdd, Nat.zero_add, List.range, List.range.loop]
  refine gwV hD _ rfl rfl (by k_ne) (fun _ => by go_simp <;> rfl) (fun _ => by first | (simp [go_sem, *]; done) | rfl | (simp [go_sem, *, show bits .and .u64 12884901888 2147483647 = 0 from by decide]; done)) ?_
  walk_nrm
  try w_num
  refine gwV hD _ rfl rfl (by k_ne) (fun _ => by go_simp <;> rfl) (fun _ => by first | (simp [go_sem, *]; done) | rfl | (simp [go_sem, *, show bits .and .u64 12884901888 2147483647 = 0 from by decide]; done)) ?_
  walk_nrm
  try w_num
  refine gwV hD _ rfl rfl (by k_ne) (fun _ => by go_simp <;> rfl) (fun _ => by first | (simp [go_sem, *]; done) | rfl | (simp [go_sem, *, show bits .and .u64 12884901888 2147483647 = 0 from by decide]; done)) ?_
  walk_nrm
  try w_num
  refine gwV hD _ rfl rfl (by k_ne) (fun _ => by go_simp <;> rfl) (fun _ => by first | (simp [go_sem, *]; done) | rfl | (simp [go_sem, *, show bits .and .u64 12884901888 2147483647 = 0 from by decide]; done)) ?_
  walk_nrm
  try w_num
  refine gwV hD _ rfl rfl (by k_ne) (fun _ => by go_simp <;> rfl) (fun _ => by first | (simp [go_sem, *]; done) | rfl | (simp [go_sem, *, show bits .and .u64 12884901888 2147483647 = 0 from by decide]; done)) ?_
  walk_nrm
  try w_num
  refine gwV hD _ rfl rfl (by k_ne) (fun _ => by go_simp <;> rfl) (fun _ => by first | (simp [go_sem, *]; done) | rfl | (simp [go_sem, *, show bits .and .u64 12884901888 2147483647 = 0 from by decide]; done)) ?_
  walk_nrm
  try w_num
  refine gwS hD rfl (fun w => stepG_callGo w rfl rfl (by k_ne) rfl H.f_uAdd (nm_uAdd wlink) rfl) ?_
  walk_nrmf uAddFn
  refine gwS hD rfl (fun _ => stepG_seq) ?_
  refine gwS hD rfl (fun _ => stepG_region) ?_
  simp only [List.size_toArray, List.length_cons, List.length_nil, Nat.reduceAdd, Nat.zero_add, List.range, List.range.loop]
  refine gwV hD _ rfl rfl (by k_ne) (fun _ => by go_simp <;> rfl) (fun _ => by first | (simp [go_sem, *]; done) | rfl | (simp [go_sem, *, show bits .and .u64 12884901888 2147483647 = 0 from by decide]; done)) ?_
  walk_nrm
  try w_num
  refine gwS hD rfl (fun _ => stepG_region_end) ?_
  refine gwS hD rfl (fun _ => stepG_seq) ?_
  refine gwS hD rfl (fun _ => stepG_region) ?_
  simp only [List.size_toArray, List.length_cons, List.length_nil, Nat.reduceAdd, Nat.zero_add, List.range, List.range.loop]
  refine gwV hD _ rfl rfl (by k_ne) (fun _ => by go_simp <;> rfl) (fun _ => by first | (simp [go_sem, *]; done) | rfl | (simp [go_sem, *, show bits .and .u64 12884901888 2147483647 = 0 from by decide]; done)) ?_
  walk_nrm
  try w_num
  refine gwV hD _ rfl rfl (by k_ne) (fun _ => by go_simp <;> rfl) (fun _ => by first | (simp [go_sem, *]; done) | rfl | (simp [go_sem, *, show bits .and .u64 12884901888 2147483647 = 0 from by decide]; done)) ?_
  walk_nrm
  try w_num
  refine gwV hD _ rfl rfl (by k_ne) (fun _ => by go_simp <;> rfl) (fun _ => by first | (simp [go_sem, *]; done) | rfl | (simp [go_sem, *, show bits .and .u64 12884901888 2147483647 = 0 from by decide]; done)) ?_
  walk_nrm
  try w_num
  refine gwV hD _ rfl rfl (by k_ne) (fun _ => by go_simp <;> rfl) (fun _ => by first | (simp [go_sem, *]; done) | rfl | (simp [go_sem, *, show bits .and .u64 12884901888 2147483647 = 0 from by decide]; done)) ?_
  walk_nrm
  try w_num
  have e0 : IntKind.u64.wrap (0 + 12884901888) = 3 * KK := by decide
  refine GoesW.mk rfl fun d => ⟨_, _, _, (stepG_add_atomic rfl rfl (by k_ne) rfl H.f_addU64 (x_addU64_n wlink) (x_addU64_b wlink) (x_addU64_x wlink) .u64 (x_addU64_f wlink) rfl rfl (show World.cell? (w.at d) _ = _ from hw.cellSt) (show World.frozen? (w.at d) _ = _ from hw.thaw 0)).trans (by rw [e0]), ds_rw, ?_⟩
  refine GoesW.at (w := w.setCell (stA Wg) (.int .u64 (3 * KK))) ?_ d
  replace hw := hw.setSt (3 * KK)
  generalize w.setCell (stA Wg) (.int .u64 (3 * KK)) = w1 at hw hT ⊢
  simp only [KK] at hw hT ⊢
  walk_nrm
  refine gwV hD _ rfl rfl (by k_ne) (fun _ => by go_simp <;> rfl) (fun _ => by first | (simp [go_sem, *]; done) | rfl | (simp [go_sem, *, show bits .and .u64 12884901888 2147483647 = 0 from by decide]; done)) ?_
  walk_nrm
  try w_num
  refine gwS hD rfl (fun _ => stepG_region_end) ?_
  refine gwS hD rfl (fun _ => stepG_ret') ?_
  refine gwS hD rfl (fun w => stepG_leave1 w rfl rfl H.f_uAdd rfl) ?_
  walk_nrm
  refine gwV hD _ rfl rfl (by k_ne) (fun _ => by go_simp <;> rfl) (fun _ => by first | (simp [go_sem, *]; done) | rfl | (simp [go_sem, *, show bits .and .u64 12884901888 2147483647 = 0 from by decide]; done)) ?_
  walk_nrm
  try w_num
  refine gwS hD rfl (fun _ => stepG_region_end) ?_
  refine gwS hD rfl (fun _ => stepG_seq) ?_
  refine gwS hD rfl (fun _ => stepG_seq) ?_
  refine gwS hD rfl (fun _ => stepG_region) ?_
  simp only [List.size_toArray, List.length_cons, List.length_nil, Nat.reduceAdd, Nat.zero_add, List.range, List.range.loop]
  refine gwV hD _ rfl rfl (by k_ne) (fun _ => by go_simp <;> rfl) (fun _ => by first | (simp [go_sem, *]; done) | rfl | (simp [go_sem, *, show bits .and .u64 12884901888 2147483647 = 0 from by decide]; done)) ?_
  walk_nrm
  try w_num
  refine gwV hD _ rfl rfl (by k_ne) (fun _ => by go_simp <;> rfl) (fun _ => by first | (simp [go_sem, *]; done) | rfl | (simp [go_sem, *, show bits .and .u64 12884901888 2147483647 = 0 from by decide]; done)) ?_
  walk_nrm
  try w_num
  refine gwV hD _ rfl rfl (by k_ne) (fun _ => by go_simp <;> rfl) (fun _ => by first | (simp [go_sem, *]; done) | rfl | (simp [go_sem, *, show bits .and .u64 12884901888 2147483647 = 0 from by decide]; done)) ?_
  walk_nrm
  try w_num
  refine gwV hD _ rfl rfl (by k_ne) (fun _ => by go_simp <;> rfl) (fun _ => by first | (simp [go_sem, *]; done) | rfl | (simp [go_sem, *, show bits .and .u64 12884901888 2147483647 = 0 from by decide]; done)) ?_
  walk_nrm
  try w_num
  refine gwS hD rfl (fun _ => stepG_unwanted rfl rfl) ?_
  walk_nrm
  refine gwS hD rfl (fun _ => stepG_unwanted rfl rfl) ?_
  walk_nrm
  refine gwV hD _ rfl rfl (by k_ne) (fun _ => by go_simp <;> rfl) (fun _ => by first | (simp [go_sem, *]; done) | rfl | (simp [go_sem, *, show bits .and .u64 12884901888 2147483647 = 0 from by decide]; done)) ?_
  walk_nrm
  try w_num
  refine gwS hD rfl (fun _ => stepG_region_end) ?_
  refine gwS hD rfl (fun _ => stepG_cond (t := false) rfl) ?_
  simp only [Bool.false_eq_true, if_false]
  refine gwS hD rfl (fun _ => stepG_skip) ?_
  refine gwS hD rfl (fun _ => stepG_seq) ?_
  refine gwS hD rfl (fun _ => stepG_region) ?_
  simp only [List.size_toArray, List.length_cons, List.length_nil, Nat.reduceAdd, Nat.zero_add, List.range, List.range.loop]
  refine gwV hD _ rfl rfl (by k_ne) (fun _ => by go_simp <;> rfl) (fun _ => by first | (simp [go_sem, *]; done) | rfl | (simp [go_sem, *, show bits .and .u64 12884901888 2147483647 = 0 from by decide]; done)) ?_
  walk_nrm
  try w_num
  refine gwV hD _ rfl rfl (by k_ne) (fun _ => by go_simp <;> rfl) (fun _ => by first | (simp [go_sem, *]; done) | rfl | (simp [go_sem, *, show bits .and .u64 12884901888 2147483647 = 0 from by decide]; done)) ?_
  walk_nrm
  try w_num
  refine gwV hD _ rfl rfl (by k_ne) (fun _ => by go_simp <;> rfl) (fun _ => by first | (simp [go_sem, *]; done) | rfl | (simp [go_sem, *, show bits .and .u64 12884901888 2147483647 = 0 from by decide]; done)) ?_
  walk_nrm
  try w_num
  refine gwV hD _ rfl rfl (by k_ne) (fun _ => by go_simp <;> rfl) (fun _ => by first | (simp [go_sem, *]; done) | rfl | (simp [go_sem, *, show bits .and .u64 12884901888 2147483647 = 0 from by decide]; done)) ?_
  walk_nrm
  try w_num
  refine gwS hD rfl (fun _ => stepG_region_end) ?_
  refine gwS hD rfl (fun _ => stepG_seq) ?_
  refine gwS hD rfl (fun _ => stepG_region) ?_
  simp only [List.size_toArray, List.length_cons, List.length_nil, Nat.reduceAdd, Nat.zero_add, List.range, List.range.loop]
  refine gwV hD _ rfl rfl (by k_ne) (fun _ => by go_simp <;> rfl) (fun _ => by first | (simp [go_sem, *]; done) | rfl | (simp [go_sem, *, show bits .and .u64 12884901888 2147483647 = 0 from by decide]; done)) ?_
  walk_nrm
  try w_num
  refine gwV hD _ rfl rfl (by k_ne) (fun _ => by go_simp <;> rfl) (fun _ => by first | (simp [go_sem, *]; done) | rfl | (simp [go_sem, *, show bits .and .u64 12884901888 2147483647 = 0 from by decide]; done)) ?_
  walk_nrm
  try w_num
  refine gwV hD _ rfl rfl (by k_ne) (fun _ => by go_simp <;> rfl) (fun _ => by first | (simp [go_sem, *]; done) | rfl | (simp [go_sem, *, show bits .and .u64 12884901888 2147483647 = 0 from by decide]; done)) ?_
  walk_nrm
  try w_num
  refine gwV hD _ rfl rfl (by k_ne) (fun _ => by go_simp <;> rfl) (fun _ => by first | (simp [go_sem, *]; done) | rfl | (simp [go_sem, *, show bits .and .u64 12884901888 2147483647 = 0 from by decide]; done)) ?_
  walk_nrm
  try w_num
  refine gwS hD rfl (fun _ => stepG_region_end) ?_
  refine gwS hD rfl (fun _ => stepG_seq) ?_
  refine gwS hD rfl (fun _ => stepG_seq) ?_
  refine gwS hD rfl (fun _ => stepG_region) ?_
  simp only [List.size_toArray, List.length_cons, List.length_nil, Nat.reduceAdd, Nat.zero_add, List.range, List.range.loop]
  refine gwV hD _ rfl rfl (by k_ne) (fun _ => by go_simp <;> rfl) (fun _ => by first | (simp [go_sem, *]; done) | rfl | (simp [go_sem, *, show bits .and .u64 12884901888 2147483647 = 0 from by decide]; done)) ?_
  walk_nrm
  try w_num
  refine gwV hD _ rfl rfl (by k_ne) (fun _ => by go_simp <;> rfl) (fun _ => by first | (simp [go_sem, *]; done) | rfl | (simp [go_sem, *, show bits .and .u64 12884901888 2147483647 = 0 from by decide]; done)) ?_
  walk_nrm
  try w_num
  refine gwV hD _ rfl rfl (by k_ne) (fun _ => by go_simp <;> rfl) (fun _ => by first | (simp [go_sem, *]; done) | rfl | (simp [go_sem, *, show bits .and .u64 12884901888 2147483647 = 0 from by decide]; done)) ?_
  walk_nrm
  try w_num
  refine gwV hD _ rfl rfl (by k_ne) (fun _ => by go_simp <;> rfl) (fun _ => by first | (simp [go_sem, *]; done) | rfl | (simp [go_sem, *, show bits .and .u64 12884901888 2147483647 = 0 from by decide]; done)) ?_
  walk_nrm
  try w_num
  refine gwV hD _ rfl rfl (by k_ne) (fun _ => by go_simp <;> rfl) (fun _ => by first | (simp [go_sem, *]; done) | rfl | (simp [go_sem, *, show bits .and .u64 12884901888 2147483647 = 0 from by decide]; done)) ?_
  walk_nrm
  try w_num
  refine gwV hD _ rfl rfl (by k_ne) (fun _ => by go_simp <;> rfl) (fun _ => by first | (simp [go_sem, *]; done) | rfl | (simp [go_sem, *, show bits .and .u64 12884901888 2147483647 = 0 from by decide]; done)) ?_
  walk_nrm
  try w_num
  refine gwV hD _ rfl rfl (by k_ne) (fun _ => by go_simp <;> rfl) (fun _ => by first | (simp [go_sem, *]; done) | rfl | (simp [go_sem, *, show bits .and .u64 12884901888 2147483647 = 0 from by decide]; done)) ?_
  walk_nrm
  try w_num
  refine gwV hD _ rfl rfl (by k_ne) (fun _ => by go_simp <;> rfl) (fun _ => by first | (simp [go_sem, *]; done) | rfl | (simp [go_sem, *, show bits .and .u64 12884901888 2147483647 = 0 from by decide]; done)) ?_
  walk_nrm
  try w_num
  refine gwV hD _ rfl rfl (by k_ne) (fun _ => by go_simp <;> rfl) (fun _ => by first | (simp [go_sem, *]; done) | rfl | (simp [go_sem, *, show bits .and .u64 12884901888 2147483647 = 0 from by decide]; done)) ?_
  walk_nrm
  try w_num
  refine gwV hD _ rfl rfl (by k_ne) (fun _ => by go_simp <;> rfl) (fun _ => by first | (simp [go_sem, *]; done) | rfl | (simp [go_sem, *, show bits .and .u64 12884901888 2147483647 = 0 from by decide]; done)) ?_
  walk_nrm
  try w_num
  refine gwS hD rfl (fun _ => stepG_region_end) ?_
  refine gwS hD rfl (fun _ => stepG_cond (t := true) rfl) ?_
  simp only [if_true]
  refine gwS hD rfl (fun _ => stepG_region) ?_
  simp only [List.size_toArray, List.length_cons, List.length_nil, Nat.reduceAdd, Nat.zero_add, List.range, List.range.loop]
  refine gwV hD _ rfl rfl (by k_ne) (fun _ => by go_simp <;> rfl) (fun _ => by first | (simp [go_sem, *]; done) | rfl | (simp [go_sem, *, show bits .and .u64 12884901888 2147483647 = 0 from by decide]; done)) ?_
  walk_nrm
  try w_num
  refine gwV hD _ rfl rfl (by k_ne) (fun _ => by go_simp <;> rfl) (fun _ => by first | (simp [go_sem, *]; done) | rfl | (simp [go_sem, *, show bits .and .u64 12884901888 2147483647 = 0 from by decide]; done)) ?_
  walk_nrm
  try w_num
  refine gwV hD _ rfl rfl (by k_ne) (fun _ => by go_simp <;> rfl) (fun _ => by first | (simp [go_sem, *]; done) | rfl | (simp [go_sem, *, show bits .and .u64 12884901888 2147483647 = 0 from by decide]; done)) ?_
  walk_nrm
  try w_num
  have hcs : ∀ d, World.cell? (World.at w1 d) ⟨Wg, 1, none⟩ = some (.int .u32 0) := fun d => hw.cellSm
  refine gwVd hD _ rfl rfl (by k_ne) (fun d => by
    have hcv := run_convert_to_unsafe (P := PP) H.underlying_tPU32 H.underlying_tUP H.room_tU32 (hcs d)
    dsimp only [wlink] at hcv
    go_simp <;> rfl) (fun d => by
    have hce := fun es => events_convert_to_unsafe (P := PP) H.underlying_tPU32 H.underlying_tUP H.room_tU32 (hcs d) es
    dsimp only [wlink] at hce
    simp [go_sem, hce, *]) ?_
  walk_nrm
  refine GoesW.mk rfl fun d => ⟨_, _, _, stepG_markAt .read (by simp) rfl rfl (by k_ne) rfl H.f_raceRead (x_raceRead_n wlink) (x_raceRead_b wlink) (x_raceRead_x wlink) (x_raceRead_f wlink) (ad := ⟨Wg, 1, none⟩) (by simp [Act.eval]), ds_rd, GoesW.at ?_ d⟩
  walk_nrm
  refine gwS hD rfl (fun _ => stepG_region_end) ?_
  refine gwS hD rfl (fun _ => stepG_seq) ?_
  refine gwS hD rfl (fun _ => stepG_seq) ?_
  refine gwS hD rfl (fun _ => stepG_region) ?_
  simp only [List.size_toArray, List.length_cons, List.length_nil, Nat.reduceAdd, Nat.zero_add, List.range, List.range.loop]
  refine gwV hD _ rfl rfl (by k_ne) (fun _ => by go_simp <;> rfl) (fun _ => by first | (simp [go_sem, *]; done) | rfl | (simp [go_sem, *, show bits .and .u64 12884901888 2147483647 = 0 from by decide]; done)) ?_
  walk_nrm
  try w_num
  refine gwV hD _ rfl rfl (by k_ne) (fun _ => by go_simp <;> rfl) (fun _ => by first | (simp [go_sem, *]; done) | rfl | (simp [go_sem, *, show bits .and .u64 12884901888 2147483647 = 0 from by decide]; done)) ?_
  walk_nrm
  try w_num
  refine gwS hD rfl (fun _ => stepG_region_end) ?_
  refine gwS hD rfl (fun _ => stepG_cond (t := false) rfl) ?_
  simp only [Bool.false_eq_true, if_false]
  refine gwS hD rfl (fun _ => stepG_skip) ?_
  refine gwS hD rfl (fun _ => stepG_seq) ?_
  refine gwS hD rfl (fun _ => stepG_seq) ?_
  refine gwS hD rfl (fun _ => stepG_region) ?_
  simp only [List.size_toArray, List.length_cons, List.length_nil, Nat.reduceAdd, Nat.zero_add, List.range, List.range.loop]
  refine gwV hD _ rfl rfl (by k_ne) (fun _ => by go_simp <;> rfl) (fun _ => by first | (simp [go_sem, *]; done) | rfl | (simp [go_sem, *, show bits .and .u64 12884901888 2147483647 = 0 from by decide]; done)) ?_
  walk_nrm
  try w_num
  refine gwV hD _ rfl rfl (by k_ne) (fun _ => by go_simp <;> rfl) (fun _ => by first | (simp [go_sem, *]; done) | rfl | (simp [go_sem, *, show bits .and .u64 12884901888 2147483647 = 0 from by decide]; done)) ?_
  walk_nrm
  try w_num
  refine gwV hD _ rfl rfl (by k_ne) (fun _ => by go_simp <;> rfl) (fun _ => by first | (simp [go_sem, *]; done) | rfl | (simp [go_sem, *, show bits .and .u64 12884901888 2147483647 = 0 from by decide]; done)) ?_
  walk_nrm
  try w_num
  refine gwS hD rfl (fun _ => stepG_unwanted rfl rfl) ?_
  walk_nrm
  refine gwS hD rfl (fun _ => stepG_unwanted rfl rfl) ?_
  walk_nrm
  refine gwV hD _ rfl rfl (by k_ne) (fun _ => by go_simp <;> rfl) (fun _ => by first | (simp [go_sem, *]; done) | rfl | (simp [go_sem, *, show bits .and .u64 12884901888 2147483647 = 0 from by decide]; done)) ?_
  walk_nrm
  try w_num
  refine gwV hD _ rfl rfl (by k_ne) (fun _ => by go_simp <;> rfl) (fun _ => by first | (simp [go_sem, *]; done) | rfl | (simp [go_sem, *, show bits .and .u64 12884901888 2147483647 = 0 from by decide]; done)) ?_
  walk_nrm
  try w_num
  refine gwS hD rfl (fun _ => stepG_unwanted rfl rfl) ?_
  walk_nrm
  refine gwS hD rfl (fun _ => stepG_unwanted rfl rfl) ?_
  walk_nrm
  refine gwS hD rfl (fun _ => stepG_unwanted rfl rfl) ?_
  walk_nrm
  refine gwS hD rfl (fun _ => stepG_unwanted rfl rfl) ?_
  walk_nrm
  refine gwV hD _ rfl rfl (by k_ne) (fun _ => by go_simp <;> rfl) (fun _ => by first | (simp [go_sem, *]; done) | rfl | (simp [go_sem, *, show bits .and .u64 12884901888 2147483647 = 0 from by decide]; done)) ?_
  walk_nrm
  try w_num
  refine gwS hD rfl (fun _ => stepG_region_end) ?_
  refine gwS hD rfl (fun _ => stepG_cond (t := false) rfl) ?_
  simp only [Bool.false_eq_true, if_false]
  refine gwS hD rfl (fun _ => stepG_skip) ?_
  refine gwS hD rfl (fun _ => stepG_seq) ?_
  refine gwS hD rfl (fun _ => stepG_seq) ?_
  refine gwS hD rfl (fun _ => stepG_region) ?_
  simp only [List.size_toArray, List.length_cons, List.length_nil, Nat.reduceAdd, Nat.zero_add, List.range, List.range.loop]
  refine gwV hD _ rfl rfl (by k_ne) (fun _ => by go_simp <;> rfl) (fun _ => by first | (simp [go_sem, *]; done) | rfl | (simp [go_sem, *, show bits .and .u64 12884901888 2147483647 = 0 from by decide]; done)) ?_
  walk_nrm
  try w_num
  refine gwV hD _ rfl rfl (by k_ne) (fun _ => by go_simp <;> rfl) (fun _ => by first | (simp [go_sem, *]; done) | rfl | (simp [go_sem, *, show bits .and .u64 12884901888 2147483647 = 0 from by decide]; done)) ?_
  walk_nrm
  try w_num
  refine gwV hD _ rfl rfl (by k_ne) (fun _ => by go_simp <;> rfl) (fun _ => by first | (simp [go_sem, *]; done) | rfl | (simp [go_sem, *, show bits .and .u64 12884901888 2147483647 = 0 from by decide]; done)) ?_
  walk_nrm
  try w_num
  refine gwS hD rfl (fun _ => stepG_unwanted rfl rfl) ?_
  walk_nrm
  refine gwS hD rfl (fun _ => stepG_unwanted rfl rfl) ?_
  walk_nrm
  refine gwV hD _ rfl rfl (by k_ne) (fun _ => by go_simp <;> rfl) (fun _ => by first | (simp [go_sem, *]; done) | rfl | (simp [go_sem, *, show bits .and .u64 12884901888 2147483647 = 0 from by decide]; done)) ?_
  walk_nrm
  try w_num
  refine gwS hD rfl (fun _ => stepG_region_end) ?_
  refine gwS hD rfl (fun _ => stepG_cond (t := true) rfl) ?_
  simp only [if_true]
  refine gwS hD rfl (fun _ => stepG_ret') ?_
  refine GoesW.stop (fun d => ?_)
  refine ⟨rfl, _, stepG_unwind_entry (v := .tuple #[]) (evs := #[mk .enable]) rfl H.f_enable (x_enable_n wlink) (x_enable_b wlink) (x_enable_x wlink) (x_enable_f wlink) (by simp [Extern.Race.none_]) (by simp [mk]) (by simp [mk]), GoesW.at ?_ d⟩
  refine gwS hD rfl (fun w => stepG_leave0 w rfl rfl H.f_add rfl) ?_
  walk_nrm
  exact hT
end
end Go.Proofs.Ytmoajpkgdimdaaa
