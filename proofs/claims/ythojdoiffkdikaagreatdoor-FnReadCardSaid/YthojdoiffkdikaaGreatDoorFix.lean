/- Regions that draw their order and whose operations yield the same in whatever order: one duty an operation, no tree of orders; in a function's own frame and in a round of a range over a function. -/
import Derived.Test.YthojdoiffkdikaaGreatDoorKit
import Derived.RangeFuncNested
import Derived.RangeFuncBound
import Derived.RangeFuncCalls
import Derived.RangeFuncLeaves
import Derived.Shelf.Abstract
import Derived.Shelf.RegionOpen
import Derived.OwnWalkIn
import Derived.TacticsInMore
import Derived.LoopNIn
import Derived.LoopIn
import Derived.Deep.RegionHeld3
namespace Go.Proofs.YthojdoiffkdikaaGreatDoor
open Go.RowKit
section
variable {P : Program} {ops : Array Oper} {md : Region.Mode}

/-- A fence that lets every plain step by: the wide one, and the wide one in a round. -/
def Lets (F : Fence) (n : Nat) (P : Program) : Prop := (∀ f, F.fn f) ∧ ∀ (o : Oper) (a : Act) (w : World) (K : Act → World → Prop) (Q : Exit → Act → World → Prop), (∀ c, o.op ≠ .defer c) → o.wp P a w K Q → o.wpIn F n P a w K Q
theorem lets_round (l n : Nat) : Lets (Fence.wide.inRound l) n P := by
  refine ⟨fun _ => trivial, fun o a w K Q hd h => ⟨fun _ _ => trivial, ?_⟩⟩
  rw [show (Fence.wide.inRound l).round = some l from rfl, Oper.semAt_some l a.eval o hd]
  unfold Oper.wp at h
  revert h
  generalize (execOp a.eval o).run P w = r
  intro h
  cases r with
  | ok nx w' =>
    cases nx with
    | value v => exact h
    | skip => exact h
    | defer d => exact h
    | enter f args => exact ⟨fun h0 => (by cases h0), CallsIn.inRound l (callsIn_wide.2 h)⟩
    | row row args =>
      refine ⟨fun h0 => (by cases h0), fun c cs _ => ?_⟩
      obtain ⟨v, w'', hr, hs⟩ := h c cs
      exact ⟨v, w'', hr, stepsIn_wide.2 hs⟩
    | _ => exact h.elim
  | halt s w' =>
    cases s <;> first | exact h | exact h.elim
theorem lets_wide (n : Nat) : Lets Fence.wide n P := by
  refine ⟨fun _ => trivial, fun o a w K Q _ h => ⟨fun _ _ => trivial, ?_⟩⟩
  rw [show Fence.wide.round = none from rfl, Oper.semAt_none]
  unfold Oper.wp at h
  revert h
  generalize (execOp a.eval o).run P w = r
  intro h
  cases r with
  | ok nx w' =>
    cases nx with
    | value v => exact h
    | skip => exact h
    | defer d => exact h
    | enter f args => exact ⟨fun h0 => (by cases h0), callsIn_wide.2 h⟩
    | row row args =>
      refine ⟨fun h0 => (by cases h0), fun c cs _ => ?_⟩
      obtain ⟨v, w'', hr, hs⟩ := h c cs
      exact ⟨v, w'', hr, stepsIn_wide.2 hs⟩
    | _ => exact h.elim
  | halt s w' =>
    cases s <;> first | exact h | exact h.elim
theorem anyIn_more {F : Fence} {n : Nat} {Q : Exit → Act → World → Prop} : ∀ (fuel : Nat) (listed : Array Bool) (a : Act) (w : World), wpAnyIn F n P md ops Q fuel listed a w → wpAnyIn F n P md ops Q (fuel + 1) listed a w
  | 0, _, _, _, h => ⟨fun _ => h.2, fun i hi => by rw [h.1] at hi; cases hi⟩
  | fuel + 1, _, _, _, h => ⟨h.1, fun i hi => wpOpIn_mono (fun a' w' h' => anyIn_more fuel _ a' w' h') (h.2 i hi)⟩
theorem anyIn_le {F : Fence} {n : Nat} {Q : Exit → Act → World → Prop} {f g : Nat} (hfg : f ≤ g) {listed : Array Bool} {a : Act} {w : World} (h : wpAnyIn F n P md ops Q f listed a w) : wpAnyIn F n P md ops Q g listed a w := by
  obtain ⟨k, rfl⟩ : ∃ k, g = f + k := ⟨g - f, by omega⟩
  clear hfg
  induction k with
  | zero => exact h
  | succ k ih => exact anyIn_more _ _ _ _ ih

/-! What is asked of the region, by reckoning. -/
def fixB (md : Region.Mode) (ops : Array Oper) (size : Nat) : Bool :=
  (List.range ops.size).all fun i =>
    match ops[i]? with
    | none => true
    | some o =>
      (match o.dst with | some d => decide (d < size) | none => true) &&
      (o.after.all fun e => !Region.binds md e || decide (e.on < i)) &&
      (match o.op with | .select .. => false | .defer .. => false | _ => true) &&
      (List.range ops.size).all fun j =>
        match ops[j]? with
        | none => true
        | some oj =>
          match oj.dst with
          | none => true
          | some d => (!(o.looksAt ops).contains d || o.after.any fun e => Region.binds md e && decide (e.on = j)) && (decide (i = j) || decide (o.dst ≠ some d))
theorem fixB_spec {size : Nat} (h : fixB md ops size = true) {i : Nat} {o : Oper} (ho : ops[i]? = some o) :
    (∀ d, o.dst = some d → d < size) ∧ (∀ e ∈ o.after, Region.binds md e = true → e.on < i) ∧ (∀ cs b, o.op ≠ .select cs b) ∧ (∀ c, o.op ≠ .defer c) ∧
    ∀ (j : Nat) (oj : Oper) (d : Tmp), ops[j]? = some oj → oj.dst = some d → (d ∈ o.looksAt ops → ∃ e ∈ o.after, Region.binds md e = true ∧ e.on = j) ∧ (o.dst = some d → i = j) := by
  have hi : i < ops.size := (Array.getElem?_eq_some_iff.1 ho).1
  unfold fixB at h
  rw [List.all_eq_true] at h
  have h1 := h i (List.mem_range.2 hi)
  rw [ho] at h1
  simp only [Bool.and_eq_true] at h1
  obtain ⟨⟨⟨h2, h3⟩, h4⟩, h5⟩ := h1
  refine ⟨fun d hd => ?_, fun e he hb => ?_, fun cs b e => ?_, fun c e => ?_, fun j oj d hj hd => ?_⟩
  · rw [hd] at h2; simpa using h2
  · have := (Array.all_eq_true_iff_forall_mem.1 h3) e he
    rw [hb] at this; simpa using this
  · rw [e] at h4; cases h4
  · rw [e] at h4; cases h4
  · have hjlt : j < ops.size := (Array.getElem?_eq_some_iff.1 hj).1
    rw [List.all_eq_true] at h5
    have h6 := h5 j (List.mem_range.2 hjlt)
    rw [hj] at h6
    simp only [hd, Bool.and_eq_true] at h6
    obtain ⟨h7, h8⟩ := h6
    refine ⟨fun hm => ?_, fun he => ?_⟩
    · rw [List.contains_iff_mem.2 hm, Bool.not_true, Bool.false_or, Array.any_eq_true] at h7
      obtain ⟨k, hk, hk2⟩ := h7
      simp only [Bool.and_eq_true, decide_eq_true_eq] at hk2
      exact ⟨o.after[k], Array.getElem_mem hk, hk2.1, hk2.2⟩
    · rw [he] at h8; simpa using h8
/-- The operations from m on are forced: m waits for all ahead of it, each further one for the one before. -/
def tailB (md : Region.Mode) (ops : Array Oper) (m : Nat) : Bool :=
  ((List.range m).all fun i => decide (ops.size ≤ m) || (List.range (m + 1)).any fun k => decide (i < k) && ((ops[k]?).map fun o => o.after.any fun e => Region.binds md e && decide (e.on = i)).getD false) &&
  (List.range ops.size).all fun k => decide (k ≤ m) || ((ops[k]?).map fun o => o.after.any fun e => Region.binds md e && decide (e.on + 1 = k)).getD false
theorem tailB_spec {m : Nat} (h : tailB md ops m = true) : (m < ops.size → ∀ i, i < m → ∃ (k : Nat) (o : Oper), i < k ∧ k ≤ m ∧ ops[k]? = some o ∧ ∃ e ∈ o.after, Region.binds md e = true ∧ e.on = i) ∧
    ∀ (k : Nat) (o : Oper), m < k → ops[k]? = some o → ∃ e ∈ o.after, Region.binds md e = true ∧ e.on + 1 = k := by
  unfold tailB at h
  simp only [Bool.and_eq_true] at h
  refine ⟨fun hm i hi => ?_, fun k o hk ho => ?_⟩
  · have h2 := (List.all_eq_true.1 h.1) i (List.mem_range.2 hi)
    rw [decide_eq_false (by omega), Bool.false_or] at h2
    obtain ⟨k, hk0, hk⟩ := List.any_eq_true.1 h2
    simp only [Bool.and_eq_true, decide_eq_true_eq] at hk
    have hk1 := List.mem_range.1 hk0
    cases ho : ops[k]? with
    | none => rw [ho] at hk; simp at hk
    | some o =>
      rw [ho] at hk
      simp only [Option.map_some, Option.getD_some] at hk
      obtain ⟨x, hx, hx2⟩ := Array.any_eq_true.1 hk.2
      simp only [Bool.and_eq_true, decide_eq_true_eq] at hx2
      exact ⟨k, o, hk.1, by omega, ho, o.after[x], Array.getElem_mem hx, hx2.1, hx2.2⟩
  · have hks : k < ops.size := (Array.getElem?_eq_some_iff.1 ho).1
    have h2 := (List.all_eq_true.1 h.2) k (List.mem_range.2 hks)
    rw [decide_eq_false (by omega), Bool.false_or, ho] at h2
    simp only [Option.map_some, Option.getD_some] at h2
    obtain ⟨x, hx, hx2⟩ := Array.any_eq_true.1 h2
    simp only [Bool.and_eq_true, decide_eq_true_eq] at hx2
    exact ⟨o.after[x], Array.getElem_mem hx, hx2.1, hx2.2⟩

/-! The frame at the end: each operation's value in its slot. -/
def puts (a : Act) : List Oper → List Value → Act
  | o :: r, v :: vs => puts (a.put o.dst v) r vs
  | _, _ => a
theorem put_defers (a : Act) (d : Option Tmp) (v : Value) : (a.put d v).defers = a.defers := by cases d <;> rfl
theorem put_size (a : Act) (d : Option Tmp) (v : Value) : (a.put d v).tmps.size = a.tmps.size := by cases d <;> simp [Act.put]
theorem puts_defers : ∀ (l : List Oper) (vs : List Value) (a : Act), (puts a l vs).defers = a.defers
  | [], _, _ => by simp [puts]
  | _ :: _, [], _ => by simp [puts]
  | o :: r, v :: vs, a => by simp only [puts]; rw [puts_defers r vs, put_defers]
theorem puts_size : ∀ (l : List Oper) (vs : List Value) (a : Act), (puts a l vs).tmps.size = a.tmps.size
  | [], _, _ => by simp [puts]
  | _ :: _, [], _ => by simp [puts]
  | o :: r, v :: vs, a => by simp only [puts]; rw [puts_size r vs, put_size]
theorem put_other (a : Act) (d : Option Tmp) (v : Value) (t : Tmp) (h : d ≠ some t) : (a.put d v).tmps[t]? = a.tmps[t]? := by
  cases d with
  | none => rfl
  | some d => simp only [Act.put]; rw [Array.getElem?_setIfInBounds_ne (fun e => h (by rw [e]))]
theorem puts_other : ∀ (l : List Oper) (vs : List Value) (a : Act) (t : Tmp), (∀ o ∈ l, o.dst ≠ some t) → (puts a l vs).tmps[t]? = a.tmps[t]?
  | [], _, _, _, _ => by simp [puts]
  | _ :: _, [], _, _, _ => by simp [puts]
  | o :: r, v :: vs, a, t, h => by
    simp only [puts]
    rw [puts_other r vs _ t (fun o' ho' => h o' (List.mem_cons_of_mem _ ho')), put_other _ _ _ _ (h o (List.mem_cons_self ..))]

/-- How a frame within the region stands to the frame at its end. -/
structure Agree (ops : Array Oper) (m : Nat) (aF : Act) (listed : Array Bool) (a : Act) : Prop where
  defers : a.defers = aF.defers
  size : a.tmps.size = aF.tmps.size
  done : ∀ (j : Nat) (o : Oper) (d : Tmp), j < m → ops[j]? = some o → o.dst = some d → listed.getD j false = true → a.tmps[d]? = aF.tmps[d]?
  rest : ∀ t, (∀ (j : Nat) (o : Oper), j < m → ops[j]? = some o → o.dst ≠ some t) → a.tmps[t]? = aF.tmps[t]?

/-- What is owed of one operation: at the end's frame it yields what stands there, and keeps S. -/
def Ob (P : Program) (ops : Array Oper) (S : World → Prop) (aF : Act) (o : Oper) : Prop :=
  (Region.wanted o (yielded ops aF.tmps) = true ∧ ∀ w, S w → ∀ K : Act → World → Prop, Hid (∀ w', S w' → K aF w') → o.wp P aF w K (fun _ _ _ => False)) ∨
  (Region.wanted o (yielded ops aF.tmps) = false ∧ ∀ d, o.dst = some d → aF.tmps[d]? = some undef)
def ObAll (P : Program) (ops : Array Oper) (S : World → Prop) (aF : Act) : List Oper → Prop
  | [] => True
  | o :: r => Ob P ops S aF o ∧ ObAll P ops S aF r
theorem ObAll.get {S : World → Prop} {aF : Act} : ∀ (l : List Oper) (i : Nat) (o : Oper), ObAll P ops S aF l → l[i]? = some o → Ob P ops S aF o
  | [], _, _, _, h => by simp at h
  | o' :: r, 0, o, h, h2 => by simp at h2; subst h2; exact h.1
  | o' :: r, i + 1, o, h, h2 => ObAll.get r i o h.2 (by simpa using h2)

theorem put_fixed {aF : Act} {d : Option Tmp} {v : Value} (h : aF.put d v = aF) (hd : ∀ t, d = some t → t < aF.tmps.size) : ∀ t, d = some t → aF.tmps[t]? = some v := by
  rintro t rfl
  have h1 : (aF.put (some t) v).tmps[t]? = aF.tmps[t]? := by rw [h]
  rw [← h1]
  simp only [Act.put]
  rw [Array.getElem?_setIfInBounds_self_of_lt (hd t rfl)]
theorem upon_fixed {o : Oper} {a aF : Act} {K0 : Act → World → Prop} {Q : Exit → Act → World → Prop} {S' : World → Prop} {r : Result Next} (hd : ∀ t, o.dst = some t → t < aF.tmps.size)
    (h : o.upon P aF (fun a' w' => a' = aF ∧ S' w') (fun _ _ _ => False) r) (hk : ∀ v w', (∀ t, o.dst = some t → aF.tmps[t]? = some v) → S' w' → K0 (a.put o.dst v) w') : o.upon P a K0 Q r := by
  cases r with
  | ok nx w' =>
    cases nx with
    | value v => exact hk v w' (put_fixed h.1 hd) h.2
    | skip => exact hk undef w' (put_fixed h.1 hd) h.2
    | defer d =>
      have h1 : (({ aF with defers := d :: aF.defers } : Act).put o.dst undef).defers = aF.defers := congrArg Act.defers h.1
      rw [put_defers] at h1
      have h2 := congrArg List.length h1
      simp at h2
    | enter f args =>
      refine Calls.mono h ?_
      intro e w'' hh
      cases e with
      | returned v => exact hk v w'' (put_fixed hh.1 hd) hh.2
      | panicked c => exact hh.elim
      | outgrown => obtain ⟨_, _, h0⟩ := hh; exact h0.elim
    | row row args => exact Rows.mono h fun v w'' hh => hk v w'' (put_fixed hh.1 hd) hh.2
    | _ => exact h.elim
  | halt s w' =>
    cases s <;> first | exact h.elim | exact (show False from h).elim

theorem getD_of {a b : Array Value} {t : Nat} (h : a[t]? = b[t]?) : a.getD t undef = b.getD t undef := by
  rw [Array.getD_eq_getD_getElem?, Array.getD_eq_getD_getElem?, h]
theorem eval_looks {o : Oper} {a b : Act} (h : ∀ t ∈ o.looksAt ops, a.tmps[t]? = b.tmps[t]?) : ∀ x ∈ o.op.operands, a.eval x = b.eval x := by
  intro x hx
  cases x with
  | tmp t => exact getD_of (h t (List.mem_append_left _ (List.mem_filterMap.2 ⟨.tmp t, by simpa using hx, rfl⟩)))
  | _ => rfl
theorem wanted_looks {o : Oper} {a b : Act} (h : ∀ t ∈ o.looksAt ops, a.tmps[t]? = b.tmps[t]?) : Region.wanted o (yielded ops a.tmps) = Region.wanted o (yielded ops b.tmps) := by
  unfold Region.wanted
  cases hg : o.guard with
  | none => rfl
  | some gw =>
    obtain ⟨g, want⟩ := gw
    have hy : yielded ops a.tmps g = yielded ops b.tmps g := by
      unfold yielded
      cases ht : (ops[g]?).bind (·.dst) with
      | none => rfl
      | some t =>
        have := h t (by simp [Oper.looksAt, hg, ht])
        simp [this]
    simp only [hy]

theorem filter_mono {p q : Nat → Bool} (h : ∀ x, p x = true → q x = true) : ∀ l : List Nat, (l.filter p).Sublist (l.filter q)
  | [] => by simp
  | x :: l => by
    cases hp : p x
    · cases hq : q x
      · rw [List.filter_cons_of_neg (by rw [hp]; simp), List.filter_cons_of_neg (by rw [hq]; simp)]; exact filter_mono h l
      · rw [List.filter_cons_of_neg (by rw [hp]; simp), List.filter_cons_of_pos hq]; exact (filter_mono h l).cons _
    · rw [List.filter_cons_of_pos hp, List.filter_cons_of_pos (h x hp)]; exact (filter_mono h l).cons_cons _
def leftN (n : Nat) (listed : Array Bool) : Nat := ((List.range n).filter fun j => !listed.getD j true).length
theorem leftN_set {n i : Nat} {listed : Array Bool} (hi : i < n) (h : listed.getD i true = false) : leftN n (listed.setIfInBounds i true) < leftN n listed := by
  unfold leftN
  have hsz : i < listed.size := by
    apply Classical.byContradiction
    intro hn
    rw [Array.getD_eq_getD_getElem?, Array.getElem?_eq_none (by omega)] at h
    simp at h
  have hsub : ((List.range n).filter fun j => !(listed.setIfInBounds i true).getD j true).Sublist ((List.range n).filter fun j => !listed.getD j true) := by
    refine filter_mono (fun j hj => ?_) _
    by_cases e : i = j
    · subst e
      rw [Array.getD_eq_getD_getElem?, Array.getElem?_setIfInBounds_self_of_lt hsz] at hj
      simp at hj
    · rw [getD_set_ne true e] at hj; exact hj
  refine Nat.lt_of_le_of_ne hsub.length_le fun he => ?_
  have heq := hsub.eq_of_length he
  have hm : i ∈ (List.range n).filter fun j => !listed.getD j true := List.mem_filter.2 ⟨List.mem_range.2 hi, by rw [h]; rfl⟩
  rw [← heq] at hm
  have h2 := (List.mem_filter.1 hm).2
  rw [Array.getD_eq_getD_getElem?, Array.getElem?_setIfInBounds_self_of_lt hsz] at h2
  simp at h2
theorem getD_bool {listed : Array Bool} {j : Nat} (hj : j < listed.size) (d e : Bool) : listed.getD j d = listed.getD j e := by
  rw [Array.getD_eq_getD_getElem?, Array.getD_eq_getD_getElem?, Array.getElem?_eq_getElem hj]; rfl
theorem some_ready {size : Nat} (hB : fixB md ops size = true) {listed : Array Bool} (hs : listed.size = ops.size) {m : Nat} (hm : m ≤ ops.size) (h : ∀ i ∈ Region.ready md ops listed, ¬ i < m) : ∀ (n j : Nat), j < n → j < m → listed.getD j true = true
  | 0, _, h0, _ => by omega
  | n + 1, j, hj, hjm => by
    apply Classical.byContradiction
    intro hn
    have hf : listed.getD j true = false := by simpa using hn
    obtain ⟨o, ho⟩ : ∃ o, ops[j]? = some o := ⟨_, Array.getElem?_eq_getElem (by omega)⟩
    exact h j (mem_ready.2 ⟨hf, o, ho, fun e he hb => by
      have hlt := (fixB_spec hB ho).2.1 e he hb
      rw [getD_bool (by omega) false true]
      exact some_ready hB hs hm h n e.on (by omega) (by omega)⟩) hjm
theorem closed_all {m : Nat} (hl : tailB md ops m = true) (hms : m < ops.size) {listed : Array Bool} (hc : ∀ (j : Nat) (o : Oper), ops[j]? = some o → listed.getD j false = true → ∀ e ∈ o.after, Region.binds md e = true → listed.getD e.on false = true)
    (hm : ∀ o, ops[m]? = some o → ∀ e ∈ o.after, Region.binds md e = true → listed.getD e.on false = true) : ∀ (n i : Nat), m < n + i → i < m → listed.getD i false = true
  | 0, i, h1, h2 => by omega
  | n + 1, i, h1, h2 => by
    obtain ⟨k, o, hk, hkm, ho, x, hx, hb, rfl⟩ := (tailB_spec hl).1 hms i h2
    by_cases e : k = m
    · subst e; exact hm o ho x hx hb
    · exact hc k o ho (closed_all hl hms hc hm n k (by omega) (by omega)) x hx hb

variable {F : Fence} {n : Nat}
/-- The forced tail, in its one order. -/
theorem tail_list {size m : Nat} (hB : fixB md ops size = true) (hT : tailB md ops m = true) {Q : Exit → Act → World → Prop} :
    ∀ (fuel k : Nat) (listed : Array Bool) (a : Act) (w : World), fuel + k = ops.size → m ≤ k → listed.size = ops.size → (∀ j, j < k → listed.getD j false = true) → (∀ j, k ≤ j → j < ops.size → listed.getD j true = false) →
      wpListIn F n P ops Q (ops.toList.drop k) a w → wpAnyIn F n P md ops Q fuel listed a w
  | 0, k, listed, a, w, hk, hm, hs, h1, h2, h => by
    have hr : Region.ready md ops listed = [] := by
      apply List.eq_nil_iff_forall_not_mem.2
      intro j hj
      obtain ⟨h3, o, ho, -⟩ := mem_ready.1 hj
      have hjs : j < ops.size := (Array.getElem?_eq_some_iff.1 ho).1
      have := h1 j (by omega)
      rw [getD_bool (by omega) false true, h3] at this; cases this
    rw [List.drop_eq_nil_of_le (by simp; omega)] at h
    exact ⟨hr, h⟩
  | fuel + 1, k, listed, a, w, hk, hm, hs, h1, h2, h => by
    have hks : k < ops.size := by omega
    obtain ⟨o, ho⟩ : ∃ o, ops[k]? = some o := ⟨_, Array.getElem?_eq_getElem hks⟩
    have hmem : k ∈ Region.ready md ops listed := mem_ready.2 ⟨h2 k (Nat.le_refl _) hks, o, ho, fun e he hb => h1 e.on ((fixB_spec hB ho).2.1 e he hb)⟩
    have honly : ∀ i ∈ Region.ready md ops listed, i = k := by
      intro i hi
      obtain ⟨h3, oi, hoi, h4⟩ := mem_ready.1 hi
      have his : i < ops.size := (Array.getElem?_eq_some_iff.1 hoi).1
      apply Classical.byContradiction
      intro hne
      by_cases hlt : i < k
      · have := h1 i hlt
        rw [getD_bool (by omega) false true, h3] at this; cases this
      · obtain ⟨e, he, hb, hon⟩ := (tailB_spec hT).2 i oi (by omega) hoi
        have h5 := h4 e he hb
        have h6 := h2 e.on (by omega) (by omega)
        rw [getD_bool (by omega) false true, h6] at h5; cases h5
    refine ⟨fun h0 => (by rw [h0] at hmem; cases hmem), fun i hi => ?_⟩
    obtain rfl := honly i hi
    have hd : ops.toList.drop i = o :: ops.toList.drop (i + 1) := by
      rw [List.drop_eq_getElem_cons (by simpa using hks)]
      congr 1
      have := (Array.getElem?_eq_some_iff.1 ho).2
      simpa using this
    rw [hd] at h
    have hnext : ∀ a' w', wpListIn F n P ops Q (ops.toList.drop (i + 1)) a' w' → wpAnyIn F n P md ops Q fuel (listed.setIfInBounds i true) a' w' := fun a' w' h' => by
      refine tail_list hB hT fuel (i + 1) _ a' w' (by omega) (by omega) (by simpa using hs) ?_ ?_ h'
      · intro j hj
        by_cases e : i = j
        · subst e
          rw [Array.getD_eq_getD_getElem?, Array.getElem?_setIfInBounds_self_of_lt (by omega)]; rfl
        · rw [getD_set_ne false e]; exact h1 j (by omega)
      · intro j hj hjs
        rw [getD_set_ne true (by omega)]; exact h2 j (by omega) hjs
    unfold wpListIn at h
    unfold wpOpIn
    rw [ho]
    simp only
    split
    · rename_i hw; rw [if_pos hw] at h; exact Oper.wpIn_mono hnext h
    · rename_i hw; rw [if_neg hw] at h; exact ⟨h.1, hnext _ _ h.2⟩

theorem anyIn_fixed (hF : Lets F n P) {S : World → Prop} {m : Nat} {aF : Act} {Q : Exit → Act → World → Prop} (hms : m ≤ ops.size) (hB : fixB md ops aF.tmps.size = true) (hT : tailB md ops m = true)
    (hob : ObAll P ops S aF (ops.toList.take m)) (hend : ∀ w, S w → wpListIn F n P ops Q (ops.toList.drop m) aF w) :
    ∀ (fuel : Nat) (listed : Array Bool) (a : Act) (w : World), listed.size = ops.size → leftN m listed + (ops.size - m) ≤ fuel → Agree ops m aF listed a →
      (∀ (j : Nat) (o : Oper), ops[j]? = some o → listed.getD j false = true → ∀ e ∈ o.after, Region.binds md e = true → listed.getD e.on false = true) →
      (∀ j, m ≤ j → j < ops.size → listed.getD j true = false) → S w → wpAnyIn F n P md ops Q fuel listed a w := by
  have hfin : ∀ (fuel : Nat) (listed : Array Bool) (a : Act) (w : World), listed.size = ops.size → ops.size - m ≤ fuel → Agree ops m aF listed a → (∀ j, m ≤ j → j < ops.size → listed.getD j true = false) → S w →
      (∀ j, j < m → listed.getD j true = true) → wpAnyIn F n P md ops Q fuel listed a w := by
    intro fuel listed a w hs hf hA hu hS hall
    have ha : a = aF := by
      have ht : a.tmps = aF.tmps := by
        apply Array.ext_getElem?
        intro t
        by_cases he : ∃ (j : Nat) (o : Oper), j < m ∧ ops[j]? = some o ∧ o.dst = some t
        · obtain ⟨j, o, hjm, ho, hd⟩ := he
          exact hA.done j o t hjm ho hd (by rw [getD_bool (by omega) false true]; exact hall j hjm)
        · exact hA.rest t fun j o hjm ho hd => he ⟨j, o, hjm, ho, hd⟩
      cases a; cases aF; simp only [Act.mk.injEq] at *; exact ⟨ht, hA.defers⟩
    subst ha
    exact anyIn_le hf (tail_list hB hT (ops.size - m) m listed a w (by omega) (Nat.le_refl _) hs (fun j hj => by rw [getD_bool (by omega) false true]; exact hall j hj) hu (hend w hS))
  intro fuel
  induction fuel with
  | zero =>
    intro listed a w hs hf hA hc hu hS
    refine hfin 0 listed a w hs (by omega) hA hu hS ?_
    intro j hj
    apply Classical.byContradiction
    intro hn
    have hf2 : listed.getD j true = false := by simpa using hn
    have := leftN_set hj hf2
    omega
  | succ fuel ih =>
    intro listed a w hs hf hA hc hu hS
    by_cases hall : ∀ j, j < m → listed.getD j true = true
    · exact hfin _ listed a w hs (by omega) hA hu hS hall
    have hnot : ¬ ∀ i ∈ Region.ready md ops listed, ¬ i < m := fun h => hall fun j hj => some_ready hB hs hms h (j + 1) j (by omega) hj
    have hlow : ∀ i ∈ Region.ready md ops listed, i < m := by
      intro i hi
      apply Classical.byContradiction
      intro hge
      obtain ⟨h1, o, ho, hready⟩ := mem_ready.1 hi
      have his : i < ops.size := (Array.getElem?_eq_some_iff.1 ho).1
      by_cases e : i = m
      · subst e
        exact hall fun j hj => by
          rw [getD_bool (by omega) true false]
          exact closed_all hT his hc (fun o' ho' e he hb => by rw [ho] at ho'; cases ho'; exact hready e he hb) (i + 1) j (by omega) hj
      · obtain ⟨e', he, hb, hon⟩ := (tailB_spec hT).2 i o (by omega) ho
        have h5 := hready e' he hb
        have h6 := hu e'.on (by omega) (by omega)
        rw [getD_bool (by omega) false true, h6] at h5; cases h5
    refine ⟨fun h0 => (hnot (by rw [h0]; intro i hi; cases hi)).elim, fun i hi => ?_⟩
    have him := hlow i hi
    obtain ⟨h1, o, ho, hready⟩ := mem_ready.1 hi
    have hjs : i < ops.size := (Array.getElem?_eq_some_iff.1 ho).1
    obtain ⟨hd, hbefore, hsel, hdef, hlooks⟩ := fixB_spec hB ho
    have hsame : ∀ t ∈ o.looksAt ops, a.tmps[t]? = aF.tmps[t]? := by
      intro t ht
      by_cases he : ∃ (j : Nat) (oj : Oper), j < m ∧ ops[j]? = some oj ∧ oj.dst = some t
      · obtain ⟨j, oj, hjm, hoj, hdj⟩ := he
        obtain ⟨e, he1, he2, rfl⟩ := (hlooks j oj t hoj hdj).1 ht
        exact hA.done _ oj t hjm hoj hdj (hready e he1 he2)
      · exact hA.rest t fun j oj hjm hoj hdj => he ⟨j, oj, hjm, hoj, hdj⟩
    have hw := wanted_looks hsame
    have hex : execOp a.eval o = execOp aF.eval o := execOp_congr o hsel (eval_looks hsame)
    have hnext : ∀ v w', (∀ t, o.dst = some t → aF.tmps[t]? = some v) → S w' → wpAnyIn F n P md ops Q fuel (listed.setIfInBounds i true) (a.put o.dst v) w' := by
      intro v w' hv hS'
      refine ih _ _ _ (by simpa using hs) (by have := leftN_set him h1; omega) ⟨by rw [put_defers]; exact hA.defers, by rw [put_size]; exact hA.size, ?_, ?_⟩ ?_ ?_ hS'
      · intro j oj d hjm hoj hdj hlj
        by_cases e : i = j
        · subst e
          rw [ho] at hoj
          cases hoj
          rw [hv d hdj, hdj]
          simp only [Act.put]
          rw [Array.getElem?_setIfInBounds_self_of_lt (by rw [hA.size]; exact hd d hdj)]
        · rw [getD_set_ne false e] at hlj
          rw [put_other _ _ _ _ (fun he => e ((hlooks j oj d hoj hdj).2 he))]
          exact hA.done j oj d hjm hoj hdj hlj
      · intro t ht
        rw [put_other _ _ _ _ (ht i o him ho)]
        exact hA.rest t ht
      · intro j oj hoj hlj e he hb
        by_cases ej : i = j
        · subst ej
          rw [ho] at hoj
          cases hoj
          exact getD_set_true (hready e he hb)
        · rw [getD_set_ne false ej] at hlj
          exact getD_set_true (hc j oj hoj hlj e he hb)
      · intro j hj hjs'
        rw [getD_set_ne true (by omega)]; exact hu j hj hjs'
    have hO := ObAll.get (ops.toList.take m) i o hob (by rw [List.getElem?_take_of_lt him]; simpa using ho)
    unfold wpOpIn
    rw [ho]
    simp only
    rcases hO with ⟨hwt, hrun⟩ | ⟨hwt, hund⟩
    · rw [if_pos (by rw [hw]; exact hwt)]
      refine hF.2 o a w _ Q hdef ?_
      unfold Oper.wp
      rw [hex]
      exact upon_fixed hd (hrun w hS (fun a' w' => a' = aF ∧ S w') (fun w' h' => ⟨rfl, h'⟩)) hnext
    · rw [if_neg (by rw [hw, hwt]; simp)]
      exact ⟨fun _ _ => hF.1 _, hnext undef w hund hS⟩
theorem agree_start (a : Act) (m : Nat) (vs : List Value) : Agree ops m (puts a (ops.toList.take m) vs) (Array.replicate ops.size false) a where
  defers := (puts_defers _ _ _).symm
  size := (puts_size _ _ _).symm
  done := fun j o d _ ho hd hl => by
    rw [Array.getD_eq_getD_getElem?] at hl
    by_cases hj : j < ops.size
    · rw [Array.getElem?_eq_getElem (by simpa using hj)] at hl; simp at hl
    · rw [Array.getElem?_eq_none (by simpa using hj)] at hl; simp at hl
  rest := fun t ht => by
    rw [puts_other _ _ _ _ (fun o ho => by
      obtain ⟨i, hi, rfl⟩ := List.getElem_of_mem ho
      have hi' : i < m ∧ i < ops.size := by have h0 := hi; simp at h0; omega
      exact ht i _ hi'.1 (by rw [List.getElem_take, ← Array.getElem?_toList]; exact List.getElem?_eq_getElem (by simpa using hi'.2)))]
theorem leftN_le (n : Nat) (listed : Array Bool) : leftN n listed ≤ n := by
  unfold leftN
  have := List.length_filter_le (fun j => !listed.getD j true) (List.range n)
  rw [List.length_range] at this
  exact this
theorem anyIn_start (hF : Lets F n P) {S : World → Prop} {a : Act} {w : World} {Q : Exit → Act → World → Prop} (m : Nat) (vs : List Value) (hms : m ≤ ops.size) (hB : fixB md ops a.tmps.size = true) (hT : tailB md ops m = true) (hS : S w)
    (hob : ObAll P ops S (puts a (ops.toList.take m) vs) (ops.toList.take m)) (hend : ∀ w, S w → wpListIn F n P ops Q (ops.toList.drop m) (puts a (ops.toList.take m) vs) w) : wpAnyIn F n P md ops Q ops.size (Array.replicate ops.size false) a w := by
  refine anyIn_fixed hF hms (by rw [puts_size]; exact hB) hT hob hend _ _ _ _ (by simp) (by have := leftN_le m (Array.replicate ops.size false); omega) (agree_start a m vs) ?_ ?_ hS
  · intro j o ho hlj
    rw [Array.getD_eq_getD_getElem?] at hlj
    by_cases hj : j < ops.size
    · rw [Array.getElem?_eq_getElem (by simpa using hj)] at hlj; simp at hlj
    · rw [Array.getElem?_eq_none (by simpa using hj)] at hlj; simp at hlj
  · intro j _ hj
    rw [Array.getD_eq_getD_getElem?, Array.getElem?_eq_getElem (by simpa using hj)]; simp

/-- **A region that draws its order: the first m operations yield what they yield in whatever order; the others are forced.** -/
theorem region_fixedIn (hF : Lets F n P) (S : World → Prop) {id : Nat} {a : Act} {w : World} {Q : Exit → Act → World → Prop} (hm : P.follows .mixedOrders = true) (m : Nat) (vs : List Value) (hms : m ≤ ops.size) (hB : fixB .any ops a.tmps.size = true) (hT : tailB .any ops m = true) (hS : S w.drew)
    (hob : ObAll P ops S (puts a (ops.toList.take m) vs) (ops.toList.take m)) (hend : ∀ w, S w → wpListIn F n P ops Q (ops.toList.drop m) (puts a (ops.toList.take m) vs) w) : (Code.region id ops true).wpIn F n P Q a w :=
  wpIn_region_any hm (anyIn_start hF m vs hms hB hT hS hob hend)
/-- What the kit's plain laws for orders show of a region stands in a round too, where nothing is let out. -/
theorem anyIn_of_any (hF : Lets F n P) {Q : Exit → Act → World → Prop} (hQ : ¬ LetsOut Q) (hd : ∀ (i : Nat) (o : Oper), ops[i]? = some o → ∀ c, o.op ≠ .defer c) :
    ∀ (fuel : Nat) (listed : Array Bool) (a : Act) (w : World), wpAny P md ops Q fuel listed a w → wpAnyIn F n P md ops Q fuel listed a w
  | 0, _, _, _, h => h
  | fuel + 1, listed, a, w, h => ⟨h.1, fun i hi => by
      have h2 := h.2 i hi
      unfold wpOp at h2
      unfold wpOpIn
      cases ho : ops[i]? with
      | none => rw [ho] at h2; exact anyIn_of_any hF hQ hd fuel _ _ _ h2
      | some o =>
        rw [ho] at h2
        simp only at h2 ⊢
        split
        · rename_i hw
          rw [if_pos hw] at h2
          rcases h2 with h2 | ⟨_, h2⟩
          · exact hF.2 o a w _ Q (hd i o ho) (Oper.wp_mono (fun a' w' h' => anyIn_of_any hF hQ hd fuel _ a' w' h') h2)
          · exact (hQ h2).elim
        · rename_i hw
          rw [if_neg hw] at h2
          exact ⟨fun _ _ => hF.1 _, anyIn_of_any hF hQ hd fuel _ _ _ h2⟩⟩
theorem region_heldIn (hF : Lets F n P) {S : World → Prop} {id : Nat} {a : Act} {w : World} {Q : Exit → Act → World → Prop} (hm : P.follows .mixedOrders = true) (hB : fixB .any ops a.tmps.size = true) (hQ : ¬ LetsOut Q) (hS : S w.drew)
    (h : S w.drew → wpAnyH P .any ops Q S ops.size (Array.replicate ops.size false) a w.drew) : (Code.region id ops true).wpIn F n P Q a w :=
  wpIn_region_any hm (anyIn_of_any hF hQ (fun _ _ ho => (fixB_spec hB ho).2.2.2.1) _ _ _ _ (wpAny_of_held _ _ _ _ (h hS)))
/-- The same in a function's own frame, all operations at once. -/
theorem region_fixed (S : World → Prop) {id : Nat} {a : Act} {w : World} {Q : Exit → Act → World → Prop} (hm : P.follows .mixedOrders = true) (m : Nat) (vs : List Value) (hms : m = ops.size) (hB : fixB .any ops a.tmps.size = true) (hS : S w.drew)
    (hob : ObAll P ops S (puts a ops.toList vs) ops.toList) (hend : ∀ w, S w → Q .normal (puts a ops.toList vs) w) : (Code.region id ops true).wp P Q a w := by
  have hT : tailB .any ops m = true := by
    subst hms
    simp only [tailB, Bool.and_eq_true, List.all_eq_true, List.mem_range]
    exact ⟨fun i _ => by simp, fun k hk => by rw [decide_eq_true (Nat.le_of_lt hk)]; rfl⟩
  refine (wpIn_wide (n := 0)).1 (region_fixedIn (lets_wide 0) S hm m vs (Nat.le_of_eq hms) hB hT hS ?_ ?_)
  · rw [List.take_of_length_le (by simp; omega)]; exact hob
  · intro w' h'
    rw [List.drop_eq_nil_of_le (by simp; omega), List.take_of_length_le (by simp; omega)]
    exact hend w' h'
end
end Go.Proofs.YthojdoiffkdikaaGreatDoor
