/- The unary law for what the operations are made of. The unary law for the operations that the drawn swings and the steps of swings hold. -/
import Derived.Test.YtmoajpkgdimdaaaSemA
import GoSem.Dispatch
section -- a part
namespace Go.Proofs.Ytmoajpkgdimdaaa

section
variable {H : Nat → Prop} {S : Nat → Prop} {P : Program} {α β : Type}
abbrev yT {α : Type} : α → Prop := fun _ => True
theorem yg_any {Q : α → Prop} {s : Sem α} (h : yg H S P Q s) : yg H S P yT s := yg_mono h fun _ _ => trivial
theorem yg_bindT {R : β → Prop} {f : α → Sem β} {s : Sem α} (h : yg H S P yT s) (hf : ∀ a, yg H S P R (f a)) : yg H S P R (s >>= f) := yg_bind h fun a _ => hf a
theorem yg_program {Q : Program → Prop} (h : Q P) : yg H S P Q program := h
theorem yg_shape {r : Nat} : yg H S P yT (shape r) := fun _ => trivial
theorem yg_frozen {a : Addr} : yg H S P yT (frozen a) := fun _ => trivial
theorem yg_choose {q : Question} : yg H S P yT (choose q) := fun _ => trivial
theorem yg_newObj {o : Obj} (h : yO H S o) : yg H S P (fun r => H r) (newObj o) := ⟨h, fun _ hr => hr⟩
theorem yg_getObj {r : Nat} (h : H r) : yg H S P (yO H S) (getObj r) := ⟨h, fun _ ho => ho⟩
theorem yg_load {a : Addr} (h : H a.block) : yg H S P (y0 H S) (load a) := ⟨h, fun _ hv => hv⟩
theorem yg_store {a : Addr} {v : Value} (h : H a.block) (hv : yV H S v) : yg H S P yT (store a v) := ⟨h, hv, trivial⟩
theorem yg_stuck {Q : α → Prop} {s : String} : yg H S P Q (stuck s : Sem α) := trivial
theorem yg_panic {Q : α → Prop} {v : Value} : yg H S P Q (goPanic v : Sem α) := trivial
theorem yg_typeInfo {t : TypeId} : yg H S P (fun i => P.info? t = some i) (typeInfo t) := by
  refine yg_bind (Q := fun p => p = P) (yg_program rfl) ?_
  rintro p rfl
  split
  · rename_i i h; exact h
  · trivial
theorem yg_underlying {t : TypeId} : yg H S P (fun d => P.underlying t = some d) (underlying t) := by
  refine yg_bind (Q := fun p => p = P) (yg_program rfl) ?_
  rintro p rfl
  split
  · rename_i i h; exact h
  · trivial
theorem yg_sizeOf {t : TypeId} : yg H S P yT (sizeOf t) := yg_bindT (yg_any yg_typeInfo) fun _ => trivial
theorem yg_isAgg {t : TypeId} : yg H S P yT (isAgg t) := by
  refine yg_bindT (yg_any yg_underlying) fun d => ?_
  split <;> trivial
/-- The zero value of a type is young. -/
def zOk (H : Nat → Prop) (S : Nat → Prop) (P : Program) (t : TypeId) : Prop := ∀ i v, P.info? t = some i → i.zero = some v → y1 H S v
theorem yg_zeroValue {t : TypeId} (hz : zOk H S P t) : yg H S P (y1 H S) (zeroValue t) := by
  refine yg_bind yg_typeInfo fun i hi => ?_
  split
  · rename_i v hv; exact hz i v hi hv
  · trivial
theorem y0_y1 {v : Value} (h : y0 H S v) : y1 H S v := h
theorem y1_yV {v : Value} (h : y1 H S v) : yV H S v := h
theorem y1_cells {v : Value} (h : y0 H S v) : ∀ c ∈ v.cells, y0 H S c := by
  cases v <;> first | exact y0_agg.1 h | (intro c hc; simp [Value.cells] at hc; subst hc; exact h)
theorem yg_loadCellsFrom {a : Addr} (h : H a.block) : ∀ (n i : Nat) (acc : Array Value), (∀ c ∈ acc, y0 H S c) → yg H S P (fun r => ∀ c ∈ r, y0 H S c) (loadCellsFrom a i n acc)
  | 0, _, acc, hacc => hacc
  | n + 1, i, acc, hacc => by
    unfold loadCellsFrom
    refine yg_bind (yg_load (a := a.add i) ?_) fun v hv => yg_loadCellsFrom h n _ _ fun c hc => ?_
    · unfold Addr.add; split <;> exact h
    · rcases Array.mem_push.1 hc with h1 | rfl
      · exact hacc c h1
      · exact hv
theorem add_block (a : Addr) (n : Nat) : (a.add n).block = a.block := by unfold Addr.add; split <;> rfl
theorem yg_loadCells {a : Addr} (h : H a.block) (n : Nat) : yg H S P (fun r => ∀ c ∈ r, y0 H S c) (loadCells a n) := yg_loadCellsFrom h n 0 #[] (by simp)
theorem yg_storeCells {a : Addr} (h : H a.block) : ∀ (vs : List Value) (i : Nat), (∀ c ∈ vs, y0 H S c) → yg H S P yT (storeCells a vs i)
  | [], _, _ => trivial
  | v :: r, i, hv => by
    unfold storeCells
    exact yg_bindT (yg_store (by rw [add_block]; exact h) (y1_yV (y0_y1 (hv v (by simp))))) fun _ => yg_storeCells h r _ fun c hc => hv c (by simp [hc])
theorem yg_loadVar {t : TypeId} {a : Addr} (h : H a.block) : yg H S P (y1 H S) (loadVar t a) := by
  unfold loadVar
  refine yg_bindT yg_isAgg fun b => ?_
  split
  · exact yg_bindT yg_sizeOf fun n => yg_bind (yg_loadCells h n) fun r hr => y0_agg.2 hr
  · exact yg_mono (yg_load h) fun v hv => y0_y1 hv
theorem yg_storeVar {t : TypeId} {a : Addr} {v : Value} (h : H a.block) (hv : ∀ c ∈ v.cells, y0 H S c) : yg H S P yT (storeVar t a v) := by
  unfold storeVar
  refine yg_bindT yg_sizeOf fun n => ?_
  split
  · exact yg_bindT yg_stuck fun _ => yg_storeCells h _ _ fun c hc => hv c (by simpa using hc)
  · exact yg_storeCells h _ _ fun c hc => hv c (by simpa using hc)
theorem yg_newRow {t : TypeId} {cs : Array Value} (h : ∀ c ∈ cs, y0 H S c) : yg H S P (fun a => H a.block) (newRow t cs) := yg_bind (yg_newObj h) fun _ hr => hr
theorem yg_newVar {t : TypeId} {v : Value} (h : ∀ c ∈ v.cells, y0 H S c) : yg H S P (fun a => H a.block) (newVar t v) := yg_newRow h
theorem yg_sureAddr {v : Value} (h : yV H S v) : yg H S P (fun a => H a.block) (Instr.sureAddr v) := by
  unfold Instr.sureAddr
  split
  · exact h _ rfl
  · trivial
theorem yg_runtimePanicE {Q : α → Prop} {m : String} : yg H S P Q (runtimePanic (.error m) : Sem α) := trivial
theorem yg_runtimePanicN {Q : α → Prop} : yg H S P Q (runtimePanic .nilDeref : Sem α) := trivial
theorem yg_boundsPanic {Q : α → Prop} {k : IntKind} {x y : Int} {c : BoundsCode} : yg H S P Q (boundsPanic k x y c : Sem α) := by
  unfold boundsPanic
  split
  · refine yg_bindT ?_ fun _ => trivial
    exact fun _ => trivial
  · exact yg_bindT (yg_pure trivial) fun _ => trivial
theorem yg_asIntOf {v : Value} : yg H S P yT (asIntOf v) := by unfold asIntOf; split <;> trivial
theorem yg_asInt {v : Value} : yg H S P yT (asInt v) := yg_bindT yg_asIntOf fun _ => trivial
theorem yg_asBool {v : Value} : yg H S P yT (asBool v) := by unfold asBool; split <;> trivial
theorem yg_askRoom {n : Nat} : yg H S P yT (askRoom n) := by
  unfold askRoom
  split
  · exact ⟨trivial, trivial⟩
  · trivial
theorem yg_viewAt {r : Nat} (h : H r) : yg H S P yT (viewAt r) := by
  unfold viewAt
  refine yg_bindT yg_shape fun x => ?_
  split
  · trivial
  · refine yg_bindT (yg_any (yg_getObj h)) fun o => ?_
    split <;> trivial
theorem yg_noView {a : Addr} (h : H a.block) : yg H S P yT (noView a) := by
  unfold noView
  refine yg_bindT (yg_viewAt h) fun x => ?_
  split <;> trivial
theorem yg_numberAt {r : Nat} (h : H r) : yg H S P (fun x => ∀ a, x = some a → H a.1.block) (numberAt r) := by
  unfold numberAt
  refine yg_bindT yg_shape fun x => ?_
  split
  · intro a ha; cases ha
  · refine yg_bind (yg_getObj h) fun o ho => ?_
    split
    · intro a ha; cases ha; exact ho
    · intro a ha; cases ha
theorem yg_behindNumber {n : Addr} (h : H n.block) : yg H S P (fun x => H x.1.block) (behindNumber n) := by
  unfold behindNumber
  refine yg_bind (yg_numberAt h) fun x hx => ?_
  cases x with
  | none => exact h
  | some a => exact hx a rfl
theorem yg_byteOf {a : Addr} (h : H a.block) : yg H S P yT (byteOf a) := by
  unfold byteOf
  split
  · trivial
  · refine yg_bindT (yg_program trivial) fun p => ?_
    refine yg_bindT (yg_noView h) fun _ => ?_
    refine yg_bindT yg_shape fun x => ?_
    split
    · dsimp only
      split
      · trivial
      · split <;> trivial
    · trivial
end
end Go.Proofs.Ytmoajpkgdimdaaa
end
section -- a part
namespace Go.Proofs.Ytmoajpkgdimdaaa

section
variable {H : Nat → Prop} {S : Nat → Prop} {P : Program} {α β : Type}
theorem yg_part {t : TypeId} {cs : Array Value} {off : Nat} (h : ∀ c ∈ cs, y0 H S c) : yg H S P (y1 H S) (part t cs off) := by
  unfold part
  refine yg_bindT yg_isAgg fun b => ?_
  split
  · refine yg_bindT yg_sizeOf fun n => ?_
    refine yg_pure (y0_agg.2 fun c hc => ?_)
    obtain ⟨i, hi, rfl⟩ := Array.mem_iff_getElem.1 hc
    rw [Array.getElem_extract]
    exact h _ (Array.getElem_mem _)
  · split
    · rename_i v hv; exact y0_y1 (h v (Array.mem_of_getElem? hv))
    · trivial
theorem yg_forIn {γ σ : Type} (l : List γ) (f : γ → σ → Sem (ForInStep σ)) (h : ∀ x s, yg H S P yT (f x s)) : ∀ s : σ, yg H S P yT (forIn l s f) := by
  induction l with
  | nil => intro s; rw [List.forIn_nil]; exact trivial
  | cons x l ih =>
    intro s
    rw [List.forIn_cons]
    refine yg_bindT (h x s) fun r => ?_
    split
    · exact trivial
    · exact ih _
theorem yg_forInA {γ σ : Type} (l : Array γ) (f : γ → σ → Sem (ForInStep σ)) (h : ∀ x s, yg H S P yT (f x s)) (s : σ) : yg H S P yT (forIn l s f) := by
  rw [← Array.forIn_toList]; exact yg_forIn _ f h s
theorem yg_forInR {σ : Type} (n : Nat) (f : Nat → σ → Sem (ForInStep σ)) (h : ∀ x s, yg H S P yT (f x s)) (s : σ) : yg H S P yT (forIn [:n] s f) := by
  rw [Std.Legacy.Range.forIn_eq_forIn_range']; exact yg_forIn _ f h s
theorem yg_sameAddr {x y : Addr} (hx : H x.block) (hy : H y.block) : yg H S P yT (sameAddr x y) := by
    unfold sameAddr
    split
    · trivial
    · refine yg_bindT yg_frozen fun _ => ?_
      refine yg_bindT yg_frozen fun _ => ?_
      have key : yg H S P yT (mayBeOne x y) := by
        unfold mayBeOne
        have st : ∀ z : Addr, yg H S P yT (stringish z) := fun z => by
          unfold stringish
          refine yg_bindT yg_frozen fun _ => ?_
          split
          · trivial
          · refine yg_bindT yg_shape fun _ => ?_
            split
            · exact yg_frozen
            · trivial
        refine yg_bindT (st x) fun _ => ?_
        refine yg_bindT (st y) fun _ => ?_
        refine yg_bindT (yg_bindT yg_shape fun _ => trivial) fun _ => ?_
        refine yg_bindT (yg_bindT yg_shape fun _ => trivial) fun _ => ?_
        trivial
      split
      · trivial
      · refine yg_bindT (yg_noView hx) fun _ => ?_
        refine yg_bindT (yg_noView hy) fun _ => ?_
        refine yg_bindT key fun _ => ?_
        split
        · exact yg_bindT yg_choose fun _ => trivial
        · trivial
theorem yg_samePointer {a b : Option Addr} (ha : ∀ x, a = some x → H x.block) (hb : ∀ x, b = some x → H x.block) : yg H S P yT (samePointer a b) := by
  unfold samePointer
  split
  · exact yg_sameAddr (ha _ rfl) (hb _ rfl)
  · trivial
theorem yg_equalIn : ∀ (d : Nat) (t : TypeId) (x y : Value), yV H S x → yV H S y → yg H S P yT (Op.equalIn d t x y)
  | 0, _, _, _, _, _ => trivial
  | d + 1, t, x, y, hx, hy => by
    unfold Op.equalIn
    refine yg_bindT (yg_any yg_underlying) fun u => ?_
    split
    all_goals first
      | exact trivial
      | exact hx.elim
      | exact hy.elim
      | (split <;> exact trivial)
      | skip
    · refine yg_bind (yg_behindNumber (hx _ rfl)) fun a ha => ?_
      refine yg_bind (yg_behindNumber (hy _ rfl)) fun b hb => ?_
      dsimp only
      refine yg_bindT (yg_program trivial) fun p => ?_
      split
      · exact yg_bindT (yg_byteOf ha) fun _ => yg_bindT (yg_byteOf hb) fun _ => trivial
      · refine yg_bindT (yg_any yg_typeInfo) fun i => ?_
        split
        · split <;> trivial
        · trivial
    · refine yg_bindT yg_sizeOf fun n => ?_
      split
      · exact yg_sameAddr (hx _ rfl) (hy _ rfl)
      · split
        · trivial
        · exact yg_bindT yg_choose fun _ => trivial
    · exact yg_samePointer hx hy
    · refine yg_bindT (yg_program trivial) fun p => ?_
      have key : ∀ fs : Array Field, yg H S P yT (forIn fs ((none : Option Bool), ()) fun f __s => (if f.name ≠ "_" then do
          let a ← part f.type _ f.offset
          let b ← part f.type _ f.offset
          let c ← Op.equalIn d f.type a b
          if (!c) = true then pure (ForInStep.done (some false, ())) else pure (ForInStep.yield (none, ()))
        else pure (ForInStep.yield (none, ())) : Sem (ForInStep (Option Bool × Unit)))) := fun fs => yg_forInA fs _ (fun f s => by
          split
          · refine yg_bind (yg_part (y0_agg.1 hx)) fun a ha => ?_
            refine yg_bind (yg_part (y0_agg.1 hy)) fun b hb => ?_
            refine yg_bindT (yg_equalIn d f.type a b (y1_yV ha) (y1_yV hb)) fun c => ?_
            split <;> trivial
          · trivial) _
      split
      · trivial
      · refine yg_bindT (key _) fun s => ?_
        dsimp only
        split <;> trivial
    · refine yg_bindT yg_sizeOf fun n => ?_
      refine yg_bindT (yg_forInR _ _ (fun i s => ?_) _) fun s => ?_
      · refine yg_bind (yg_part (y0_agg.1 hx)) fun a ha => ?_
        refine yg_bind (yg_part (y0_agg.1 hy)) fun b hb => ?_
        refine yg_bindT (yg_equalIn d _ a b (y1_yV ha) (y1_yV hb)) fun c => ?_
        split <;> trivial
      · dsimp only
        split <;> trivial
end
end Go.Proofs.Ytmoajpkgdimdaaa
end
