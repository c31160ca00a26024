/- The unary law for the operations, on: slices, builtins, loads and stores. The unary law for the operations, on: append. -/
import Derived.Test.YtmoajpkgdimdaaaSemE
section -- a part
namespace Go.Proofs.Ytmoajpkgdimdaaa

section
variable {H : Nat → Prop} {S : Nat → Prop} {P : Program} {α β : Type}
theorem yg_ite {Q : α → Prop} {c : Prop} [Decidable c] {a b : Sem α} (ha : yg H S P Q a) (hb : yg H S P Q b) : yg H S P Q (if c then a else b) := by
  split
  · exact ha
  · exact hb
theorem yg_fieldPlace {a : Addr} {f : Field} (h : H a.block) : yg H S P (fun b => H b.block) (fieldPlace a f) := by
  unfold fieldPlace
  refine yg_bindT yg_sizeOf fun n => ?_
  split
  · unfold partAt
    refine yg_bindT (yg_byteOf h) fun b => ?_
    dsimp only
    refine yg_bindT (yg_byteOf (a := { block := a.block, off := a.off + f.offset }) h) fun b2 => ?_
    exact yg_pure (by split <;> exact h)
  · exact yg_pure (by rw [add_block]; exact h)
theorem yg_fieldAt {t : TypeId} {x : Value} {i : Nat} (h : yV H S x) : yg H S P (fun v => y0 H S v) (Instr.fieldAt t x i) := by
  unfold Instr.fieldAt
  refine yg_bindT (yg_any yg_underlying) fun u => ?_
  split
  · split
    · exact yg_bind (yg_sureAddr h) fun a ha => yg_bind (yg_fieldPlace ha) fun b hb => fun z hz => by cases hz; exact hb
    · trivial
  · trivial
theorem yg_indexAt {t : TypeId} {x i : Value} (h : yV H S x) : yg H S P (fun v => y0 H S v) (Instr.indexAt t x i) := by
  unfold Instr.indexAt
  refine yg_bindT yg_asIntOf fun ki => ?_
  obtain ⟨k, n⟩ := ki
  dsimp only
  refine yg_bindT (yg_any yg_underlying) fun u => ?_
  have key : ∀ r : Option Addr × Nat × TypeId, (∀ a, r.1 = some a → H a.block) → yg H S P (fun v => y0 H S v) (do
      let (base, len, elem) := r
      let tiny := len ≤ 1 && (match ← underlying t with | .array .. => true | _ => false)
      match base with
      | some a =>
        if 0 ≤ n ∧ n < len then pure (.pointer (some (a.add (n.toNat * (← sizeOf elem)))))
        else if tiny then unsupported (.noEntry "op/indexAddr.an index out of range at an array of length 0 or 1 (ledger 616)")
        else boundsPanic k n len .index
      | none => boundsPanic k n 0 .index : Sem Value) := fun r hr => by
    obtain ⟨base, len, elem⟩ := r
    dsimp only
    refine yg_bindT (yg_any yg_underlying) fun u => ?_
    split
    · split
      · refine yg_bindT yg_sizeOf fun m => ?_
        intro z hz; cases hz; rw [add_block]; exact hr _ rfl
      · exact yg_ite trivial yg_boundsPanic
    · exact yg_boundsPanic
  split
  · exact yg_bind (yg_sureAddr h) fun a ha => yg_bind (Q := fun r : Option Addr × Nat × TypeId => ∀ a, r.1 = some a → H a.block) (yg_pure (fun z hz => by cases hz; exact ha)) key
  · exact yg_bind (Q := fun r : Option Addr × Nat × TypeId => ∀ a, r.1 = some a → H a.block) (yg_pure h) key
  · trivial
theorem yg_sliceBound {x : Value} {y : Nat} {c : BoundsCode} : yg H S P yT (Instr.sliceBound x y c) := by
  unfold Instr.sliceBound
  refine yg_bindT yg_asIntOf fun ki => ?_
  dsimp only
  split
  · trivial
  · exact yg_boundsPanic
theorem yg_sliceBounds {b : Bool} {l c : Nat} {lo hi mx : Option Value} : yg H S P yT (Instr.sliceBounds b l c lo hi mx) := by
  unfold Instr.sliceBounds
  have k3 : ∀ (m h : Nat), yg H S P yT (do
      let l ← match lo with
        | some v => Instr.sliceBound v h (if mx.isSome then .slice3C else .sliceB)
        | none => pure 0
      pure (l, h, m) : Sem (Nat × Nat × Nat)) := fun m h => by
    dsimp only
    split
    · exact yg_bindT yg_sliceBound fun _ => trivial
    · exact yg_bindT (yg_pure trivial) fun _ => trivial
  have k2 : ∀ m : Nat, yg H S P yT (do
      let h ← match hi, mx with
        | some v, some _ => Instr.sliceBound v m .slice3B
        | some v, none => Instr.sliceBound v m (if b then .sliceAcap else .sliceAlen)
        | none, none => pure l
        | none, some _ => stuck "Slice: max without high"
      let l ← match lo with
        | some v => Instr.sliceBound v h (if mx.isSome then .slice3C else .sliceB)
        | none => pure 0
      pure (l, h, m) : Sem (Nat × Nat × Nat)) := fun m => by
    dsimp only
    split
    · exact yg_bindT yg_sliceBound (k3 m)
    · exact yg_bindT yg_sliceBound (k3 m)
    · exact yg_bindT (yg_pure trivial) (k3 m)
    · exact yg_bindT yg_stuck (k3 m)
  dsimp only
  split
  · exact yg_bindT yg_sliceBound k2
  · exact yg_bindT (yg_pure trivial) k2
theorem yg_slice {t : TypeId} {x : Value} {lo hi mx : Option Value} (h : yV H S x) : yg H S P (fun v => y0 H S v) (Instr.slice t x lo hi mx) := by
  unfold Instr.slice
  refine yg_bindT (yg_any yg_underlying) fun u => ?_
  split
  · dsimp only
    split
    · exact yg_bindT yg_stuck fun _ => yg_bindT yg_sliceBounds fun _ => trivial
    · exact yg_bindT yg_sliceBounds fun _ => trivial
  · refine yg_bindT yg_sliceBounds fun r => ?_
    dsimp only
    refine yg_bindT yg_sizeOf fun n => ?_
    refine yg_pure (fun z hz => ?_)
    split at hz
    · exact h _ hz
    · obtain ⟨a, ha, rfl⟩ := Option.map_eq_some_iff.1 hz
      rw [add_block]; exact h _ ha
  · have key : yg H S P (fun a => H a.block) (asAddr x) := by
      unfold asAddr
      split
      · exact h _ rfl
      · exact yg_runtimePanicN
      · trivial
    refine yg_bind key fun a ha => ?_
    refine yg_bindT (yg_any yg_underlying) fun u => ?_
    split
    · refine yg_bindT yg_sliceBounds fun r => ?_
      dsimp only
      refine yg_bindT yg_sizeOf fun n => ?_
      refine yg_pure (fun z hz => ?_)
      cases hz
      split
      · exact ha
      · rw [add_block]; exact ha
    · trivial
  · trivial
theorem yg_sliceAt {t : TypeId} {x : Value} {lo hi mx : Option Value} (h : yV H S x) : yg H S P (fun v => y0 H S v) (Instr.sliceAt t x lo hi mx) := by
  unfold Instr.sliceAt
  refine yg_bindT (yg_any yg_underlying) fun u => ?_
  split
  · refine yg_bind (yg_sureAddr h) fun a ha => ?_
    refine yg_bindT yg_sliceBounds fun r => ?_
    dsimp only
    refine yg_bindT yg_sizeOf fun n => ?_
    refine yg_pure (fun z hz => ?_)
    cases hz
    split
    · exact ha
    · rw [add_block]; exact ha
  · exact yg_slice h
theorem yg_loadAt {t : TypeId} {x : Value} (h : yV H S x) : yg H S P (fun v => y1 H S v) (Instr.loadAt t x) := yg_bind (yg_sureAddr h) fun _ ha => yg_loadVar ha
theorem yg_storeAt {t : TypeId} {x v : Value} (h : yV H S x) (hv : ∀ c ∈ v.cells, y0 H S c) : yg H S P yT (Instr.storeAt t x v) := yg_bind (yg_sureAddr h) fun _ ha => yg_storeVar ha hv
theorem yg_extract {x : Value} {i : Nat} (h : yV H S x) : yg H S P (fun v => y1 H S v) (Instr.extract x i) := by
  unfold Instr.extract
  split
  · split
    · rename_i hv; exact yg_pure (y0_tuple.1 h _ (Array.mem_of_getElem? hv))
    · trivial
  · trivial
theorem yg_complex_ {ts : Array TypeId} {t : TypeId} {x y : Value} : yg H S P (fun v => y0 H S v) (Builtin.complex_ ts t #[x, y]) := by
  cases x <;> cases y <;> first | exact trivial | skip
  unfold Builtin.complex_
  exact yg_ite trivial trivial
theorem yg_imag_ {ts : Array TypeId} {t : TypeId} {x : Value} : yg H S P (fun v => y0 H S v) (Builtin.imag_ ts t #[x]) := by
  cases x <;> exact trivial
theorem yg_real_ {ts : Array TypeId} {t : TypeId} {x : Value} : yg H S P (fun v => y0 H S v) (Builtin.real_ ts t #[x]) := by
  cases x <;> exact trivial
theorem yg_len_ {ts : Array TypeId} {t : TypeId} {x : Value} (h : yV H S x) : yg H S P (fun v => y0 H S v) (Builtin.len_ ts t #[x]) := by
  unfold Builtin.len_
  generalize ts[0]? = o
  cases o with
  | none => trivial
  | some t0 =>
    refine yg_bindT (yg_any yg_underlying) fun u => ?_
    cases x <;> cases u <;> first | exact trivial | exact h.elim | skip
    all_goals
      refine yg_bindT (yg_any yg_underlying) fun u => ?_
      split <;> trivial
theorem yg_mayShare {a b c : Nat} {o : Option Addr} {x : Value} : yg H S P yT (Builtin.mayShare a b c o x) := by
  have hc : ∀ (a : Addr) (n : Nat), yg H S P yT (Builtin.holdsCells a n) := fun a n => by
    unfold Builtin.holdsCells
    refine yg_bindT yg_shape fun s => ?_
    split <;> trivial
  have k2 : ∀ there : Bool, yg H S P yT (do
      if !there then return true
      match x with
      | .slice (some b) _ _ => do pure (!(← Builtin.holdsCells b (c * a)) || o.any (·.block == b.block))
      | _ => pure false : Sem Bool) := fun there => by
    split
    · trivial
    · split
      · exact yg_bindT (hc _ _) fun _ => trivial
      · trivial
  unfold Builtin.mayShare
  dsimp only
  split
  · exact yg_bindT (yg_pure trivial) k2
  · exact yg_bindT (hc _ _) fun _ => yg_bindT yg_frozen fun _ => yg_bindT (yg_pure trivial) k2
end
end Go.Proofs.Ytmoajpkgdimdaaa
end
section -- a part
namespace Go.Proofs.Ytmoajpkgdimdaaa

section
variable {H : Nat → Prop} {S : Nat → Prop} {P : Program} {α β : Type}
theorem yg_lenOf {x : Value} : yg H S P yT (Builtin.lenOf x) := by unfold Builtin.lenOf; split <;> trivial
theorem yg_firstCells {a b : Nat} {x : Value} (h : yV H S x) : yg H S P (fun r => ∀ c ∈ r, y0 H S c) (Builtin.firstCells a b x) := by
  unfold Builtin.firstCells
  split
  · exact yg_loadCells (h _ rfl) _
  · exact yg_pure (by simp)
  · refine yg_pure fun c hc => ?_
    obtain ⟨i, _, rfl⟩ := Array.mem_map.1 hc
    trivial
  · trivial
theorem y0_zeroCells {zero : Array Value} (h : ∀ c ∈ zero, y0 H S c) (n : Nat) : ∀ c ∈ Builtin.zeroCells zero n, y0 H S c := y0_range h _ _
theorem yg_append {t1 t2 ty : TypeId} {s x : Value} (hz : ∀ e, P.underlying t1 = some (.slice e) → zOk H S P e) (hs : yV H S s) (hx : yV H S x) : yg H S P (fun v => y0 H S v) (Builtin.append_ #[t1, t2] ty #[s, x]) := by
  unfold Builtin.append_
  simp only [List.getElem?_toArray, List.getElem?_cons_zero, List.getElem?_cons_succ]
  refine yg_bind yg_underlying fun u hu => ?_
  split
  · rename_i elem
    have hze := hz elem hu
    cases s <;> first | exact trivial | skip
    rename_i base sLen sCap
    dsimp only
    refine yg_bindT yg_sizeOf fun size => ?_
    refine yg_bindT (yg_any yg_underlying) fun u2 => ?_
    refine yg_bindT (yg_pure trivial) fun zeros => ?_
    have hA : ∀ n : Nat, yg H S P (fun r => ∀ c ∈ r, y0 H S c) (if (!zeros) = true then Builtin.firstCells size n x else if n * size = 0 then pure #[] else do pure (Builtin.zeroCells (← zeroValue elem).cells n) : Sem (Array Value)) := fun n =>
      yg_ite (yg_firstCells hx) (yg_ite (yg_pure (by simp)) (yg_bind (yg_zeroValue hze) fun z hzz => yg_pure (y0_zeroCells (y1_cells hzz) n)))
    have hB : ∀ (n : Nat) (new : Array Value), (∀ c ∈ new, y0 H S c) → yg H S P (fun v => y0 H S v) (match (generalizing := false) base with | some a => (do storeCells (a.add (sLen * size)) new.toList; pure (.slice base (sLen + n) sCap)) | _ => pure (.slice base (sLen + n) sCap) : Sem Value) := fun n new hnew => by
      split
      · exact yg_bindT (yg_storeCells (by rw [add_block]; exact hs _ rfl) _ _ fun c hc => hnew c (by simpa using hc)) fun _ => yg_pure hs
      · exact yg_pure hs
    have hC : ∀ n : Nat, yg H S P (fun v => y0 H S v) (do
        let newCap ← choose (.appendCap (sLen + n) sCap elem)
        askRoom (newCap * (← typeInfo elem).bytes)
        let old ← Builtin.firstCells size sLen (.slice base sLen sCap)
        (if (!zeros) = true then Builtin.firstCells size n x else if n * size = 0 then pure #[] else do pure (Builtin.zeroCells (← zeroValue elem).cells n) : Sem (Array Value)) >>= fun new => do
          let z ← zeroValue elem
          pure (.slice (some (← newRow elem (old ++ new ++ Builtin.zeroCells z.cells (newCap - (sLen + n))))) (sLen + n) newCap) : Sem Value) := fun n => by
      refine yg_bindT yg_choose fun newCap => ?_
      refine yg_bindT (yg_any yg_typeInfo) fun ti => ?_
      refine yg_bindT yg_askRoom fun _ => ?_
      refine yg_bind (yg_firstCells hs) fun old hold => ?_
      refine yg_bind (hA n) fun new hnew => ?_
      refine yg_bind (yg_zeroValue hze) fun z hzz => ?_
      refine yg_bind (yg_newRow fun c hc => ?_) fun a ha => yg_pure fun b hb => by cases hb; exact ha
      rcases Array.mem_append.1 hc with h1 | h1
      · rcases Array.mem_append.1 h1 with h2 | h2
        · exact hold c h2
        · exact hnew c h2
      · exact y0_zeroCells (y1_cells hzz) _ c h1
    have hM : ∀ n : Nat, yg H S P yT (if zeros = true then runtimePanic (.error "growslice: len out of range") else do
        if !(← Builtin.mayShare size sLen n base x) then mark .noRoom
        unsupported (.resourceLimit "append: a slice or a string whose bytes no memory bears") : Sem Unit) := fun n => by
      refine yg_ite yg_runtimePanicE (yg_bindT yg_mayShare fun b => ?_)
      dsimp only
      exact yg_ite ⟨trivial, trivial⟩ trivial
    repeat' (first
      | with_reducible exact yg_runtimePanicE
      | (with_reducible refine yg_bindT (hM _) fun _ => hC _)
      | with_reducible exact hC _
      | (with_reducible refine yg_bind (hA _) (hB _))
      | (with_reducible refine yg_bindT yg_asInt fun _ => ?_)
      | (with_reducible refine yg_bindT yg_lenOf fun _ => ?_)
      | (with_reducible refine yg_bindT (yg_pure trivial) fun _ => ?_)
      | (with_reducible refine yg_bindT (yg_any yg_typeInfo) fun _ => ?_)
      | (with_reducible refine yg_bindT yg_runtimePanicE fun _ => ?_)
      | (with_reducible refine yg_bindT yg_mayShare fun _ => ?_)
      | (with_reducible refine yg_bindT yg_choose fun _ => ?_)
      | (with_reducible refine yg_ite ?_ ?_))
  · trivial
end
end Go.Proofs.Ytmoajpkgdimdaaa
end
