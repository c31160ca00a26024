/- The unary law for the operations, on: arithmetic, comparisons, conversions. The unary law for the operations, on: memory, slices, builtins. -/
import Derived.Test.YtmoajpkgdimdaaaSemC
import Derived.Laws.Sem
section -- a part
namespace Go.Proofs.Ytmoajpkgdimdaaa

section
variable {H : Nat → Prop} {S : Nat → Prop} {P : Program} {α β : Type}
theorem yg_floatArith {op : BinOp} {k : FloatKind} {x y : Nat} : yg H S P (fun v => y0 H S v) (Op.floatArith op k x y) := by
  have key : ∀ r : Option Nat, yg H S P (fun v => y0 H S v) (match r with | some r => pure (.float k r) | none => do pure (.float k (← choose (.nanBits k x y))) : Sem Value) := fun r => by
    split
    · trivial
    · exact yg_bindT yg_choose fun _ => trivial
  unfold Op.floatArith
  dsimp only
  split
  · exact yg_bindT (yg_pure trivial) key
  · exact yg_bindT (yg_pure trivial) key
  · exact yg_bindT (yg_pure trivial) key
  · exact yg_bindT (yg_pure trivial) key
  · exact yg_bindT yg_stuck key
theorem yg_floatCmp {op : BinOp} {k : FloatKind} {x y : Nat} : yg H S P (fun v => y0 H S v) (Op.floatCmp op k x y) := by
  unfold Op.floatCmp
  dsimp only
  split <;> trivial
theorem yg_carith {op : BinOp} {k : FloatKind} {x y : Nat} : yg H S P yT (Op.Complex.arith op k x y) := by
  unfold Op.Complex.arith
  refine yg_bindT (yg_any yg_floatArith) fun v => ?_
  split <;> trivial
theorem yg_ccmp {op : BinOp} {k : FloatKind} {x y : Nat} : yg H S P yT (Op.Complex.cmp op k x y) := yg_bindT (yg_any yg_floatCmp) fun _ => yg_asBool
theorem yg_complexOp {op : BinOp} {k : FloatKind} {a b c d : Nat} (h1 : op ≠ .mul) (h2 : op ≠ .quo) : yg H S P (fun v => y0 H S v) (Op.complexOp op k a b c d) := by
  unfold Op.complexOp
  split
  · exact yg_bindT yg_carith fun _ => yg_bindT yg_carith fun _ => trivial
  · exact yg_bindT yg_carith fun _ => yg_bindT yg_carith fun _ => trivial
  · exact absurd rfl h1
  · exact absurd rfl h2
  · exact yg_bindT yg_ccmp fun _ => yg_bindT yg_ccmp fun _ => trivial
  · exact yg_bindT yg_ccmp fun _ => yg_bindT yg_ccmp fun _ => trivial
  · trivial
theorem yg_unsafeAdd {t : TypeId} {x y : Value} (hx : yV H S x) : yg H S P (fun v => y0 H S v) (Builtin.unsafeAdd_ #[] t #[x, y]) := by
  cases x with
  | pointer ptr =>
    have hp : ∀ a, ptr = some a → H a.block := hx
    unfold Builtin.unsafeAdd_
    dsimp only
    refine yg_bindT yg_asInt fun n => ?_
    cases ptr with
    | none =>
      dsimp only
      split
      · exact yg_bindT (trivial : yg H S P yT (unsupported (.unsafePointer "Add: from nil") : Sem Unit)) fun _ => by split <;> trivial
      · split <;> trivial
    | some a =>
      have ha := hp a rfl
      have key : yg H S P (fun v => y0 H S v) (do
          match ← shape a.block with
          | some (e, cells) => do
            let p ← program
            match cellAtBytes p p.depth e (cells / p.cellsOf e) a.off n with
            | some off => pure (.pointer (some { a with off }))
            | none => unsupported (.unsafePointer "Add")
          | _ => unsupported (.unsafePointer "Add") : Sem Value) := by
        refine yg_bindT yg_shape fun s => ?_
        split
        · refine yg_bindT (yg_program trivial) fun p => ?_
          split
          · intro a ha'; cases ha'; exact ha
          · trivial
        · trivial
      dsimp only
      split
      · refine yg_bindT (yg_viewAt ha) fun b => ?_
        split
        · trivial
        · exact hp
      · split
        · trivial
        · exact key
  | _ => exact trivial
theorem yg_movedNumber {t : TypeId} {x y : Value} (hx : yV H S x) : yg H S P (fun v => y0 H S v) (movedNumber t x y) := by
  have key : yg H S P (fun v => y0 H S v) (do
      let .pointer (some n) := x | Builtin.unsafeAdd_ #[] t #[x, y]
      let (a, lost) ← behindNumber n
      match ← Builtin.unsafeAdd_ #[] t #[.pointer (some a), y] with
      | .pointer (some b) => asNumber b lost
      | v => pure v : Sem Value) := by
    split
    · rename_i n
      refine yg_bind (yg_behindNumber (hx _ rfl)) fun a ha => ?_
      dsimp only
      refine yg_bind (yg_unsafeAdd (x := .pointer (some a.1)) (fun z hz => by cases hz; exact ha)) fun v hv => ?_
      split
      · exact yg_bind (yg_newObj (hv _ rfl)) fun r hr => fun z hz => by cases hz; exact hr
      · exact hv
    · exact yg_unsafeAdd hx
  unfold movedNumber
  refine yg_bindT (yg_any yg_underlying) fun u => ?_
  dsimp only
  split
  · trivial
  · exact key
theorem yg_movedPointer {t : TypeId} {x y : Value} (hx : yV H S x) : yg H S P (fun v => y0 H S v) (movedPointer t x y) := by
  unfold movedPointer
  split
  · refine yg_bindT (yg_any (yg_numberAt (hx _ rfl))) fun o => ?_
    split
    · trivial
    · exact yg_unsafeAdd hx
  · exact yg_unsafeAdd hx
theorem yg_twoPlaces {a b : Addr} (ha : H a.block) (hb : H b.block) : yg H S P yT (Op.twoPlaces a b) := by
  unfold Op.twoPlaces
  refine yg_bindT (yg_program trivial) fun p => ?_
  split
  · trivial
  · exact yg_bindT (yg_byteOf ha) fun _ => yg_bindT (yg_byteOf hb) fun _ => trivial
theorem yg_addrSub {k : IntKind} {a b : Addr} (ha : H a.block) (hb : H b.block) : yg H S P (fun v => y0 H S v) (Op.addrSub k a b) := yg_bindT (yg_twoPlaces ha hb) fun _ => trivial
theorem yg_addrCmp {op : BinOp} {a b : Addr} (ha : H a.block) (hb : H b.block) : yg H S P (fun v => y0 H S v) (Op.addrCmp op a b) := yg_bindT (yg_twoPlaces ha hb) fun _ => by dsimp only; split <;> trivial
theorem yg_addrMod {k : IntKind} {a : Addr} {n : Int} (ha : H a.block) : yg H S P (fun v => y0 H S v) (Op.addrMod k a n) := by
  unfold Op.addrMod
  refine yg_bindT yg_shape fun s => ?_
  split
  · refine yg_bindT (yg_any yg_typeInfo) fun i => ?_
    dsimp only
    split
    · trivial
    · exact yg_bindT (yg_byteOf ha) fun _ => trivial
  · trivial
theorem yg_intArith {op : BinOp} {k : IntKind} {x y : Int} : yg H S P (fun v => y0 H S v) (Op.intArith op k x y) := by unfold Op.intArith; split <;> trivial
theorem yg_intDiv {op : BinOp} {k : IntKind} {x y : Int} : yg H S P (fun v => y0 H S v) (Op.intDiv op k x y) := by
  unfold Op.intDiv
  split
  · exact yg_runtimePanicE
  · split <;> trivial
theorem yg_intBits {op : BinOp} {k : IntKind} {x y : Int} : yg H S P (fun v => y0 H S v) (Op.intBits op k x y) := by
  unfold Op.intBits
  dsimp only
  split <;> trivial
theorem yg_intCmp {op : BinOp} {x y : Int} : yg H S P (fun v => y0 H S v) (Op.intCmp op x y) := by unfold Op.intCmp; split <;> trivial
theorem yg_stringOp {op : BinOp} {x y : ByteArray} : yg H S P (fun v => y0 H S v) (Op.stringOp op x y) := by
  unfold Op.stringOp
  dsimp only
  split <;> first | trivial | (split <;> trivial)
theorem yg_eqGuardIn : ∀ (d : Nat) (t : TypeId) (x y : Value), yV H S x → yV H S y → yg H S P yT (Op.eqGuardIn d t x y)
  | 0, _, _, _, _, _ => trivial
  | d + 1, t, x, y, hx, hy => by
    unfold Op.eqGuardIn
    refine yg_bindT (yg_any yg_underlying) fun u => ?_
    split
    · exact trivial
    · refine yg_bindT (yg_forInA _ _ (fun f s => ?_) _) fun s => ?_
      · split
        · refine yg_bind (yg_part (y0_agg.1 hx)) fun a ha => ?_
          refine yg_bind (yg_part (y0_agg.1 hy)) fun b hb => ?_
          refine yg_bindT (yg_eqGuardIn d f.type a b (y1_yV ha) (y1_yV hb)) fun c => ?_
          split <;> trivial
        · trivial
      · dsimp only
        split <;> trivial
    · refine yg_bindT yg_sizeOf fun n => ?_
      refine yg_bindT (yg_forInR _ _ (fun i s => ?_) _) fun s => ?_
      · refine yg_bind (yg_part (y0_agg.1 hx)) fun a ha => ?_
        refine yg_bind (yg_part (y0_agg.1 hy)) fun b hb => ?_
        refine yg_bindT (yg_eqGuardIn d _ a b (y1_yV ha) (y1_yV hb)) fun c => ?_
        split <;> trivial
      · dsimp only
        split <;> trivial
    · trivial
theorem yg_eqGuard {op : BinOp} {t : TypeId} {ox oy : Operand} {x y : Value} (hx : yV H S x) (hy : yV H S y) : yg H S P yT (eqGuard op t ox oy x y) := by
  unfold eqGuard
  cases op
  all_goals first
    | exact trivial
    | skip
  all_goals
    simp only [Bool.not_true, Bool.false_eq_true, if_false]
    split
    · exact hx.elim
    · refine yg_bindT (yg_program trivial) fun p => ?_
      refine yg_bindT (yg_program trivial) fun p2 => ?_
      split
      · trivial
      · refine yg_bindT (yg_eqGuardIn _ _ _ _ hx hy) fun b => ?_
        split <;> trivial
    · trivial
theorem yg_binOp {op : BinOp} {t : TypeId} {x y : Value} (h1 : op ≠ .shl) (h2 : op ≠ .shr) (hc : ∀ k a b, x = .complex k a b → op ≠ .mul ∧ op ≠ .quo) (hx : yV H S x) (hy : yV H S y) : yg H S P (fun v => y0 H S v) (binOp op t x y) := by
  unfold binOp
  split
  · exact absurd rfl h1
  · exact absurd rfl h2
  · split
    · trivial
    · split <;> first | exact yg_intArith | exact yg_intDiv | exact yg_intBits | exact yg_intCmp
  · split
    · trivial
    · split <;> first | exact yg_floatArith | exact yg_floatCmp
  · split
    · trivial
    · exact yg_complexOp (hc _ _ _ rfl).1 (hc _ _ _ rfl).2
  · exact yg_stringOp
  · exact yg_bindT (yg_equalIn _ _ _ _ hx hy) fun _ => trivial
  · exact yg_bindT (yg_equalIn _ _ _ _ hx hy) fun _ => trivial
  · refine yg_bindT (yg_any yg_underlying) fun u => ?_
    split
    · exact yg_movedPointer hx
    · exact yg_movedNumber hx
  · exact yg_movedNumber hy
  · exact yg_movedNumber hx
  all_goals first
    | exact trivial
    | exact yg_bind (yg_behindNumber (hx _ rfl)) fun a ha => yg_bind (yg_behindNumber (hy _ rfl)) fun b hb => yg_addrSub ha hb
    | exact yg_bind (yg_behindNumber (hx _ rfl)) fun a ha => yg_bind (yg_behindNumber (hy _ rfl)) fun b hb => yg_addrCmp ha hb
    | exact yg_bind (yg_behindNumber (hx _ rfl)) fun a ha => yg_addrMod ha
    | exact yg_bind (yg_behindNumber (hy _ rfl)) fun a ha => yg_addrMod ha
end
end Go.Proofs.Ytmoajpkgdimdaaa
end
section -- a part
namespace Go.Proofs.Ytmoajpkgdimdaaa

section
variable {H : Nat → Prop} {S : Nat → Prop} {P : Program} {α β : Type}
theorem yg_floatToFloat {s d : FloatKind} {b : Nat} : yg H S P (fun v => y0 H S v) (Conv.floatToFloat s b d) := by
  unfold Conv.floatToFloat
  split
  · trivial
  · split
    · exact yg_bindT yg_choose fun _ => trivial
    · trivial
    · dsimp only
      split
      · exact yg_bindT yg_choose fun _ => trivial
      · trivial
theorem yg_complexToComplex {s d : FloatKind} {a b : Nat} : yg H S P (fun v => y0 H S v) (Conv.complexToComplex s a b d) := by
  unfold Conv.complexToComplex
  refine yg_bindT (yg_any yg_floatToFloat) fun v => ?_
  split
  · refine yg_bindT (yg_any yg_floatToFloat) fun v => ?_
    split <;> trivial
  · trivial
theorem yg_floatToInt {s : FloatKind} {b : Nat} {k : IntKind} : yg H S P (fun v => y0 H S v) (Conv.floatToInt s b k) := by
  unfold Conv.floatToInt
  dsimp only
  split
  · split
    · trivial
    · exact yg_bindT yg_choose fun _ => trivial
  · exact yg_bindT yg_choose fun _ => trivial
def isNum : TypeDesc → Bool
  | .int _ => true
  | .float _ => true
  | .complex _ => true
  | _ => false
theorem yg_convert {src dst : TypeId} {s d : TypeDesc} {x : Value} (hs : P.underlying src = some s) (hd : P.underlying dst = some d) (hsn : isNum s = true) (hdn : isNum d = true) : yg H S P (fun v => y0 H S v) (convert src dst x) := by
  unfold convert
  refine yg_bind yg_underlying fun s' hs' => ?_
  obtain rfl : s' = s := Option.some.inj (hs'.symm.trans hs)
  refine yg_bind yg_underlying fun d' hd' => ?_
  obtain rfl : d' = d := Option.some.inj (hd'.symm.trans hd)
  cases s' <;> (try exact absurd hsn Bool.false_ne_true) <;> cases d' <;> (try exact absurd hdn Bool.false_ne_true) <;> cases x <;> first | exact trivial | exact yg_floatToFloat | exact yg_floatToInt | exact yg_complexToComplex | skip
  all_goals
    rename_i p
    cases p <;> exact trivial
theorem yg_unary {op : UnOp} {x : Value} : yg H S P (fun v => y0 H S v) (Op.unary op x) := by
  unfold Op.unary
  split <;> first | exact yg_intArith | exact yg_intBits | trivial
theorem yg_pure0 {v : Value} (h : y0 H S v) : yg H S P (fun v => y0 H S v) (pure v : Sem Value) := h
theorem yg_box {t : TypeId} {v : Value} (h : ∀ c ∈ v.cells, y0 H S c) : yg H S P (fun v => y0 H S v) (Instr.box t v) := yg_bind (yg_newVar h) fun a ha => fun x hx => by cases hx; exact ha
theorem yg_alloc {t : TypeId} (hz : zOk H S P t) : yg H S P (fun v => y0 H S v) (Instr.alloc t true (.tuple #[])) := by
  unfold Instr.alloc
  refine yg_bind (yg_zeroValue hz) fun z hz => ?_
  dsimp only
  exact yg_bind (yg_newVar (y1_cells hz)) fun a ha => fun x hx => by cases hx; exact ha
theorem y0_get {cs : Array Value} (h : ∀ c ∈ cs, y0 H S c) (i : Nat) : y0 H S cs[i]! := by
  by_cases hi : i < cs.size
  · rw [getElem!_pos cs i hi]; exact h _ (Array.getElem_mem _)
  · rw [getElem!_neg cs i hi]; exact trivial
theorem fill_young {place : Nat → Option (Nat × Nat)} : ∀ (parts : List (Nat × Value)) (cells out : Array Value), (∀ c ∈ cells, y0 H S c) → (∀ p ∈ parts, ∀ c ∈ p.2.cells, y0 H S c) → Instr.fill place cells parts = some out → ∀ c ∈ out, y0 H S c
  | [], cells, out, hc, _, h => by
    cases h; exact hc
  | (i, v) :: r, cells, out, hc, hp, h => by
    unfold Instr.fill at h
    split at h
    · cases h
    · split at h
      · cases h
      · refine fill_young r _ out ?_ (fun p hpr => hp p (List.mem_cons_of_mem _ hpr)) h
        have hv := hp (i, v) (List.mem_cons_self ..)
        refine Array.foldl_induction (motive := fun _ (cs : Array Value) => ∀ c ∈ cs, y0 H S c) hc (fun j cs hcs c hcc => ?_)
        rcases Array.mem_or_eq_of_mem_setIfInBounds hcc with h1 | rfl
        · exact hcs c h1
        · refine hv _ ?_
          exact Array.mem_of_getElem? (Array.mem_zipIdx_iff_getElem?.1 (Array.mem_toList_iff.1 (List.get_mem _ _)))
theorem yg_mapM {γ δ : Type} {Q : δ → Prop} (f : γ → Sem δ) (h : ∀ x, yg H S P Q (f x)) (xs : Array γ) : yg H S P yT (xs.mapM f) := by
  rw [Array.mapM_eq_foldlM]
  rw [← Array.foldlM_toList]
  generalize (#[] : Array δ) = acc
  induction xs.toList generalizing acc with
  | nil => exact trivial
  | cons x l ih =>
    rw [List.foldlM_cons]
    refine yg_bindT ?_ fun a => ih a
    exact yg_bindT (yg_any (h x)) fun _ => trivial
theorem yg_build {t : TypeId} {parts : Array (Nat × Value)} (hz : zOk H S P t) (hp : ∀ p ∈ parts.toList, ∀ c ∈ p.2.cells, y0 H S c) : yg H S P (fun v => y1 H S v) (Instr.build t parts) := by
  unfold Instr.build
  refine yg_bind (yg_zeroValue hz) fun z hz => ?_
  dsimp only
  refine yg_bindT (yg_any yg_underlying) fun u => ?_
  split
  · refine yg_bindT (yg_mapM (Q := yT) _ (fun f => ?_) _) fun ps => ?_
    · exact yg_bindT yg_sizeOf fun _ => trivial
    · split
      · rename_i cells hf
        exact yg_pure (y0_agg.2 (fill_young _ _ _ (y1_cells hz) hp hf))
      · trivial
  · refine yg_bindT yg_sizeOf fun n => ?_
    split
    · rename_i cells hf
      exact yg_pure (y0_agg.2 (fill_young _ _ _ (y1_cells hz) hp hf))
    · trivial
  · trivial
theorem y0_range {zero : Array Value} (h : ∀ c ∈ zero, y0 H S c) (n : Nat) (f : Nat → Nat) : ∀ c ∈ (Array.range n).map (fun i => zero[f i]!), y0 H S c := by
  intro c hc
  obtain ⟨i, _, rfl⟩ := Array.mem_map.1 hc
  exact y0_get h _
theorem yg_buildSlice {t : TypeId} {n : Nat} {parts : Array (Nat × Value)} (hz : ∀ e, P.underlying t = some (.slice e) → zOk H S P e) (hp : ∀ p ∈ parts.toList, ∀ c ∈ p.2.cells, y0 H S c) : yg H S P (fun v => y0 H S v) (Instr.buildSlice t n parts) := by
  unfold Instr.buildSlice
  refine yg_bind yg_underlying fun u hu => ?_
  split
  · rename_i elem
    refine yg_bindT yg_sizeOf fun size => ?_
    have key : ∀ zero : Array Value, (∀ c ∈ zero, y0 H S c) → yg H S P (fun v => y0 H S v) (match Instr.fill (fun i => some (i * size, size)) ((Array.range (n * size)).map (zero[· % zero.size]!)) parts.toList with
        | some cells => do pure (.slice (some (← newRow elem cells)) n n)
        | _ => stuck "buildSlice: a part of the wrong size" : Sem Value) := fun zero hzz => by
      split
      · rename_i cells hf
        exact yg_bind (yg_newRow (fill_young _ _ _ (y0_range hzz _ _) hp hf)) fun a ha => fun x hx => by cases hx; exact ha
      · trivial
    dsimp only
    split
    · trivial
    · split
      · exact yg_bind (Q := fun zero => ∀ c ∈ zero, y0 H S c) (yg_pure (by simp)) key
      · exact yg_bind (yg_zeroValue (hz elem hu)) fun z hzz => yg_bind (Q := fun zero => ∀ c ∈ zero, y0 H S c) (yg_pure (y1_cells hzz)) key
  · trivial
theorem yg_makeSlice {t : TypeId} {l c : Value} (hz : ∀ e, P.underlying t = some (.slice e) → zOk H S P e) : yg H S P (fun v => y0 H S v) (Instr.makeSlice t l c) := by
  unfold Instr.makeSlice
  refine yg_bind yg_underlying fun u hu => ?_
  split
  · rename_i elem
    refine yg_bindT yg_asInt fun len => ?_
    refine yg_bindT yg_asInt fun cap => ?_
    refine yg_bindT (yg_any yg_typeInfo) fun ti => ?_
    have key : ∀ _ : Unit, yg H S P (fun v => y0 H S v) (do
        askRoom ((IntKind.i64.wrap cap).toNat * ti.bytes)
        let n := (IntKind.i64.wrap cap).toNat * (← sizeOf elem)
        let zero ← if n = 0 then pure #[] else do pure (← zeroValue elem).cells
        let a ← newRow elem ((Array.range n).map (zero[· % zero.size]!))
        pure (.slice (some a) (IntKind.i64.wrap len).toNat (IntKind.i64.wrap cap).toNat) : Sem Value) := fun _ => by
      refine yg_bindT yg_askRoom fun _ => ?_
      refine yg_bindT yg_sizeOf fun size => ?_
      have key2 : ∀ zero : Array Value, (∀ c ∈ zero, y0 H S c) → yg H S P (fun v => y0 H S v) (do
          let a ← newRow elem ((Array.range ((IntKind.i64.wrap cap).toNat * size)).map (zero[· % zero.size]!))
          pure (.slice (some a) (IntKind.i64.wrap len).toNat (IntKind.i64.wrap cap).toNat) : Sem Value) := fun zero hzz =>
        yg_bind (yg_newRow (y0_range hzz _ _)) fun a ha => fun x hx => by cases hx; exact ha
      dsimp only
      split
      · exact yg_bind (Q := fun zero => ∀ c ∈ zero, y0 H S c) (yg_pure (by simp)) key2
      · exact yg_bind (yg_zeroValue (hz elem hu)) fun z hzz => yg_bind (Q := fun zero => ∀ c ∈ zero, y0 H S c) (yg_pure (y1_cells hzz)) key2
    dsimp only
    split
    · split
      · exact yg_bindT yg_runtimePanicE key
      · split
        · exact yg_bindT yg_runtimePanicE key
        · exact yg_bindT yg_choose fun _ => yg_bindT yg_runtimePanicE key
    · exact key ()
  · trivial
end
end Go.Proofs.Ytmoajpkgdimdaaa
end
