/- The unary law for the operations, on: memory, slices, builtins. -/
import Derived.Test.YtmoajpkgdimdaaaSemD
import Derived.Laws.Sem
namespace Go.Proofs.Ytmoajpkgdimdaaa

section
variable {H : Nat → Prop} {S : Nat → Prop} {P : Program} {α β : Type}
theorem yg_floatToFloat {s d : FloatKind} {b : Nat} : yg H S P (fun v => y0 H S v) (Conv.floatToFloat s b d) := by
  unfold Conv.floatToFloat
  split
  · trivial
  · split
    · exact yg_bindT yg_choose fun _ => trivial
    · trivial
    · dsimp only
      split
      · exact yg_bindT yg_choose fun _ => trivial
      · trivial
theorem yg_complexToComplex {s d : FloatKind} {a b : Nat} : yg H S P (fun v => y0 H S v) (Conv.complexToComplex s a b d) := by
  unfold Conv.complexToComplex
  refine yg_bindT (yg_any yg_floatToFloat) fun v => ?_
  split
  · refine yg_bindT (yg_any yg_floatToFloat) fun v => ?_
    split <;> trivial
  · trivial
theorem yg_floatToInt {s : FloatKind} {b : Nat} {k : IntKind} : yg H S P (fun v => y0 H S v) (Conv.floatToInt s b k) := by
  unfold Conv.floatToInt
  dsimp only
  split
  · split
    · trivial
    · exact yg_bindT yg_choose fun _ => trivial
  · exact yg_bindT yg_choose fun _ => trivial
def isNum : TypeDesc → Bool
  | .int _ => true
  | .float _ => true
  | .complex _ => true
  | _ => false
theorem yg_convert {src dst : TypeId} {s d : TypeDesc} {x : Value} (hs : P.underlying src = some s) (hd : P.underlying dst = some d) (hsn : isNum s = true) (hdn : isNum d = true) : yg H S P (fun v => y0 H S v) (convert src dst x) := by
  unfold convert
  refine yg_bind yg_underlying fun s' hs' => ?_
  obtain rfl : s' = s := Option.some.inj (hs'.symm.trans hs)
  refine yg_bind yg_underlying fun d' hd' => ?_
  obtain rfl : d' = d := Option.some.inj (hd'.symm.trans hd)
  cases s' <;> (try exact absurd hsn Bool.false_ne_true) <;> cases d' <;> (try exact absurd hdn Bool.false_ne_true) <;> cases x <;> first | exact trivial | exact yg_floatToFloat | exact yg_floatToInt | exact yg_complexToComplex | skip
  all_goals
    rename_i p
    cases p <;> exact trivial
theorem yg_unary {op : UnOp} {x : Value} : yg H S P (fun v => y0 H S v) (Op.unary op x) := by
  unfold Op.unary
  split <;> first | exact yg_intArith | exact yg_intBits | trivial
theorem yg_pure0 {v : Value} (h : y0 H S v) : yg H S P (fun v => y0 H S v) (pure v : Sem Value) := h
theorem yg_box {t : TypeId} {v : Value} (h : ∀ c ∈ v.cells, y0 H S c) : yg H S P (fun v => y0 H S v) (Instr.box t v) := yg_bind (yg_newVar h) fun a ha => fun x hx => by cases hx; exact ha
theorem yg_alloc {t : TypeId} (hz : zOk H S P t) : yg H S P (fun v => y0 H S v) (Instr.alloc t true (.tuple #[])) := by
  unfold Instr.alloc
  refine yg_bind (yg_zeroValue hz) fun z hz => ?_
  dsimp only
  exact yg_bind (yg_newVar (y1_cells hz)) fun a ha => fun x hx => by cases hx; exact ha
theorem y0_get {cs : Array Value} (h : ∀ c ∈ cs, y0 H S c) (i : Nat) : y0 H S cs[i]! := by
  by_cases hi : i < cs.size
  · rw [getElem!_pos cs i hi]; exact h _ (Array.getElem_mem _)
  · rw [getElem!_neg cs i hi]; exact trivial
theorem fill_young {place : Nat → Option (Nat × Nat)} : ∀ (parts : List (Nat × Value)) (cells out : Array Value), (∀ c ∈ cells, y0 H S c) → (∀ p ∈ parts, ∀ c ∈ p.2.cells, y0 H S c) → Instr.fill place cells parts = some out → ∀ c ∈ out, y0 H S c
  | [], cells, out, hc, _, h => by
    cases h; exact hc
  | (i, v) :: r, cells, out, hc, hp, h => by
    unfold Instr.fill at h
    split at h
    · cases h
    · split at h
      · cases h
      · refine fill_young r _ out ?_ (fun p hpr => hp p (List.mem_cons_of_mem _ hpr)) h
        have hv := hp (i, v) (List.mem_cons_self ..)
        refine Array.foldl_induction (motive := fun _ (cs : Array Value) => ∀ c ∈ cs, y0 H S c) hc (fun j cs hcs c hcc => ?_)
        rcases Array.mem_or_eq_of_mem_setIfInBounds hcc with h1 | rfl
        · exact hcs c h1
        · refine hv _ ?_
          exact Array.mem_of_getElem? (Array.mem_zipIdx_iff_getElem?.1 (Array.mem_toList_iff.1 (List.get_mem _ _)))
theorem yg_mapM {γ δ : Type} {Q : δ → Prop} (f : γ → Sem δ) (h : ∀ x, yg H S P Q (f x)) (xs : Array γ) : yg H S P yT (xs.mapM f) := by
  rw [Array.mapM_eq_foldlM]
  rw [← Array.foldlM_toList]
  generalize (#[] : Array δ) = acc
  induction xs.toList generalizing acc with
  | nil => exact trivial
  | cons x l ih =>
    rw [List.foldlM_cons]
    refine yg_bindT ?_ fun a => ih a
    exact yg_bindT (yg_any (h x)) fun _ => trivial
theorem yg_build {t : TypeId} {parts : Array (Nat × Value)} (hz : zOk H S P t) (hp : ∀ p ∈ parts.toList, ∀ c ∈ p.2.cells, y0 H S c) : yg H S P (fun v => y1 H S v) (Instr.build t parts) := by
  unfold Instr.build
  refine yg_bind (yg_zeroValue hz) fun z hz => ?_
  dsimp only
  refine yg_bindT (yg_any yg_underlying) fun u => ?_
  split
  · refine yg_bindT (yg_mapM (Q := yT) _ (fun f => ?_) _) fun ps => ?_
    · exact yg_bindT yg_sizeOf fun _ => trivial
    · split
      · rename_i cells hf
        exact yg_pure (y0_agg.2 (fill_young _ _ _ (y1_cells hz) hp hf))
      · trivial
  · refine yg_bindT yg_sizeOf fun n => ?_
    split
    · rename_i cells hf
      exact yg_pure (y0_agg.2 (fill_young _ _ _ (y1_cells hz) hp hf))
    · trivial
  · trivial
theorem y0_range {zero : Array Value} (h : ∀ c ∈ zero, y0 H S c) (n : Nat) (f : Nat → Nat) : ∀ c ∈ (Array.range n).map (fun i => zero[f i]!), y0 H S c := by
  intro c hc
  obtain ⟨i, _, rfl⟩ := Array.mem_map.1 hc
  exact y0_get h _
theorem yg_buildSlice {t : TypeId} {n : Nat} {parts : Array (Nat × Value)} (hz : ∀ e, P.underlying t = some (.slice e) → zOk H S P e) (hp : ∀ p ∈ parts.toList, ∀ c ∈ p.2.cells, y0 H S c) : yg H S P (fun v => y0 H S v) (Instr.buildSlice t n parts) := by
  unfold Instr.buildSlice
  refine yg_bind yg_underlying fun u hu => ?_
  split
  · rename_i elem
    refine yg_bindT yg_sizeOf fun size => ?_
    have key : ∀ zero : Array Value, (∀ c ∈ zero, y0 H S c) → yg H S P (fun v => y0 H S v) (match Instr.fill (fun i => some (i * size, size)) ((Array.range (n * size)).map (zero[· % zero.size]!)) parts.toList with
        | some cells => do pure (.slice (some (← newRow elem cells)) n n)
        | _ => stuck "buildSlice: a part of the wrong size" : Sem Value) := fun zero hzz => by
      split
      · rename_i cells hf
        exact yg_bind (yg_newRow (fill_young _ _ _ (y0_range hzz _ _) hp hf)) fun a ha => fun x hx => by cases hx; exact ha
      · trivial
    dsimp only
    split
    · trivial
    · split
      · exact yg_bind (Q := fun zero => ∀ c ∈ zero, y0 H S c) (yg_pure (by simp)) key
      · exact yg_bind (yg_zeroValue (hz elem hu)) fun z hzz => yg_bind (Q := fun zero => ∀ c ∈ zero, y0 H S c) (yg_pure (y1_cells hzz)) key
  · trivial
theorem yg_makeSlice {t : TypeId} {l c : Value} (hz : ∀ e, P.underlying t = some (.slice e) → zOk H S P e) : yg H S P (fun v => y0 H S v) (Instr.makeSlice t l c) := by
  unfold Instr.makeSlice
  refine yg_bind yg_underlying fun u hu => ?_
  split
  · rename_i elem
    refine yg_bindT yg_asInt fun len => ?_
    refine yg_bindT yg_asInt fun cap => ?_
    refine yg_bindT (yg_any yg_typeInfo) fun ti => ?_
    have key : ∀ _ : Unit, yg H S P (fun v => y0 H S v) (do
        askRoom ((IntKind.i64.wrap cap).toNat * ti.bytes)
        let n := (IntKind.i64.wrap cap).toNat * (← sizeOf elem)
        let zero ← if n = 0 then pure #[] else do pure (← zeroValue elem).cells
        let a ← newRow elem ((Array.range n).map (zero[· % zero.size]!))
        pure (.slice (some a) (IntKind.i64.wrap len).toNat (IntKind.i64.wrap cap).toNat) : Sem Value) := fun _ => by
      refine yg_bindT yg_askRoom fun _ => ?_
      refine yg_bindT yg_sizeOf fun size => ?_
      have key2 : ∀ zero : Array Value, (∀ c ∈ zero, y0 H S c) → yg H S P (fun v => y0 H S v) (do
          let a ← newRow elem ((Array.range ((IntKind.i64.wrap cap).toNat * size)).map (zero[· % zero.size]!))
          pure (.slice (some a) (IntKind.i64.wrap len).toNat (IntKind.i64.wrap cap).toNat) : Sem Value) := fun zero hzz =>
        yg_bind (yg_newRow (y0_range hzz _ _)) fun a ha => fun x hx => by cases hx; exact ha
      dsimp only
      split
      · exact yg_bind (Q := fun zero => ∀ c ∈ zero, y0 H S c) (yg_pure (by simp)) key2
      · exact yg_bind (yg_zeroValue (hz elem hu)) fun z hzz => yg_bind (Q := fun zero => ∀ c ∈ zero, y0 H S c) (yg_pure (y1_cells hzz)) key2
    dsimp only
    split
    · split
      · exact yg_bindT yg_runtimePanicE key
      · split
        · exact yg_bindT yg_runtimePanicE key
        · exact yg_bindT yg_choose fun _ => yg_bindT yg_runtimePanicE key
    · exact key ()
  · trivial
end
end Go.Proofs.Ytmoajpkgdimdaaa
