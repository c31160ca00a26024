/- The unary law for the operations, on: arithmetic, comparisons, conversions. -/
import Derived.Test.YtmoajpkgdimdaaaSemC
namespace Go.Proofs.Ytmoajpkgdimdaaa

section
variable {H : Nat → Prop} {S : Nat → Prop} {P : Program} {α β : Type}
theorem yg_floatArith {op : BinOp} {k : FloatKind} {x y : Nat} : yg H S P (fun v => y0 H S v) (Op.floatArith op k x y) := by
  have key : ∀ r : Option Nat, yg H S P (fun v => y0 H S v) (match r with | some r => pure (.float k r) | none => do pure (.float k (← choose (.nanBits k x y))) : Sem Value) := fun r => by
    split
    · trivial
    · exact yg_bindT yg_choose fun _ => trivial
  unfold Op.floatArith
  dsimp only
  split
  · exact yg_bindT (yg_pure trivial) key
  · exact yg_bindT (yg_pure trivial) key
  · exact yg_bindT (yg_pure trivial) key
  · exact yg_bindT (yg_pure trivial) key
  · exact yg_bindT yg_stuck key
theorem yg_floatCmp {op : BinOp} {k : FloatKind} {x y : Nat} : yg H S P (fun v => y0 H S v) (Op.floatCmp op k x y) := by
  unfold Op.floatCmp
  dsimp only
  split <;> trivial
theorem yg_carith {op : BinOp} {k : FloatKind} {x y : Nat} : yg H S P yT (Op.Complex.arith op k x y) := by
  unfold Op.Complex.arith
  refine yg_bindT (yg_any yg_floatArith) fun v => ?_
  split <;> trivial
theorem yg_ccmp {op : BinOp} {k : FloatKind} {x y : Nat} : yg H S P yT (Op.Complex.cmp op k x y) := yg_bindT (yg_any yg_floatCmp) fun _ => yg_asBool
theorem yg_complexOp {op : BinOp} {k : FloatKind} {a b c d : Nat} (h1 : op ≠ .mul) (h2 : op ≠ .quo) : yg H S P (fun v => y0 H S v) (Op.complexOp op k a b c d) := by
  unfold Op.complexOp
  split
  · exact yg_bindT yg_carith fun _ => yg_bindT yg_carith fun _ => trivial
  · exact yg_bindT yg_carith fun _ => yg_bindT yg_carith fun _ => trivial
  · exact absurd rfl h1
  · exact absurd rfl h2
  · exact yg_bindT yg_ccmp fun _ => yg_bindT yg_ccmp fun _ => trivial
  · exact yg_bindT yg_ccmp fun _ => yg_bindT yg_ccmp fun _ => trivial
  · trivial
theorem yg_unsafeAdd {t : TypeId} {x y : Value} (hx : yV H S x) : yg H S P (fun v => y0 H S v) (Builtin.unsafeAdd_ #[] t #[x, y]) := by
  cases x with
  | pointer ptr =>
    have hp : ∀ a, ptr = some a → H a.block := hx
    unfold Builtin.unsafeAdd_
    dsimp only
    refine yg_bindT yg_asInt fun n => ?_
    cases ptr with
    | none =>
      dsimp only
      split
      · exact yg_bindT (trivial : yg H S P yT (unsupported (.unsafePointer "Add: from nil") : Sem Unit)) fun _ => by split <;> trivial
      · split <;> trivial
    | some a =>
      have ha := hp a rfl
      have key : yg H S P (fun v => y0 H S v) (do
          match ← shape a.block with
          | some (e, cells) => do
            let p ← program
            match cellAtBytes p p.depth e (cells / p.cellsOf e) a.off n with
            | some off => pure (.pointer (some { a with off }))
            | none => unsupported (.unsafePointer "Add")
          | _ => unsupported (.unsafePointer "Add") : Sem Value) := by
        refine yg_bindT yg_shape fun s => ?_
        split
        · refine yg_bindT (yg_program trivial) fun p => ?_
          split
          · intro a ha'; cases ha'; exact ha
          · trivial
        · trivial
      dsimp only
      split
      · refine yg_bindT (yg_viewAt ha) fun b => ?_
        split
        · trivial
        · exact hp
      · split
        · trivial
        · exact key
  | _ => exact trivial
theorem yg_movedNumber {t : TypeId} {x y : Value} (hx : yV H S x) : yg H S P (fun v => y0 H S v) (movedNumber t x y) := by
  have key : yg H S P (fun v => y0 H S v) (do
      let .pointer (some n) := x | Builtin.unsafeAdd_ #[] t #[x, y]
      let (a, lost) ← behindNumber n
      match ← Builtin.unsafeAdd_ #[] t #[.pointer (some a), y] with
      | .pointer (some b) => asNumber b lost
      | v => pure v : Sem Value) := by
    split
    · rename_i n
      refine yg_bind (yg_behindNumber (hx _ rfl)) fun a ha => ?_
      dsimp only
      refine yg_bind (yg_unsafeAdd (x := .pointer (some a.1)) (fun z hz => by cases hz; exact ha)) fun v hv => ?_
      split
      · exact yg_bind (yg_newObj (hv _ rfl)) fun r hr => fun z hz => by cases hz; exact hr
      · exact hv
    · exact yg_unsafeAdd hx
  unfold movedNumber
  refine yg_bindT (yg_any yg_underlying) fun u => ?_
  dsimp only
  split
  · trivial
  · exact key
theorem yg_movedPointer {t : TypeId} {x y : Value} (hx : yV H S x) : yg H S P (fun v => y0 H S v) (movedPointer t x y) := by
  unfold movedPointer
  split
  · refine yg_bindT (yg_any (yg_numberAt (hx _ rfl))) fun o => ?_
    split
    · trivial
    · exact yg_unsafeAdd hx
  · exact yg_unsafeAdd hx
theorem yg_twoPlaces {a b : Addr} (ha : H a.block) (hb : H b.block) : yg H S P yT (Op.twoPlaces a b) := by
  unfold Op.twoPlaces
  refine yg_bindT (yg_program trivial) fun p => ?_
  split
  · trivial
  · exact yg_bindT (yg_byteOf ha) fun _ => yg_bindT (yg_byteOf hb) fun _ => trivial
theorem yg_addrSub {k : IntKind} {a b : Addr} (ha : H a.block) (hb : H b.block) : yg H S P (fun v => y0 H S v) (Op.addrSub k a b) := yg_bindT (yg_twoPlaces ha hb) fun _ => trivial
theorem yg_addrCmp {op : BinOp} {a b : Addr} (ha : H a.block) (hb : H b.block) : yg H S P (fun v => y0 H S v) (Op.addrCmp op a b) := yg_bindT (yg_twoPlaces ha hb) fun _ => by dsimp only; split <;> trivial
theorem yg_addrMod {k : IntKind} {a : Addr} {n : Int} (ha : H a.block) : yg H S P (fun v => y0 H S v) (Op.addrMod k a n) := by
  unfold Op.addrMod
  refine yg_bindT yg_shape fun s => ?_
  split
  · refine yg_bindT (yg_any yg_typeInfo) fun i => ?_
    dsimp only
    split
    · trivial
    · exact yg_bindT (yg_byteOf ha) fun _ => trivial
  · trivial
theorem yg_intArith {op : BinOp} {k : IntKind} {x y : Int} : yg H S P (fun v => y0 H S v) (Op.intArith op k x y) := by unfold Op.intArith; split <;> trivial
theorem yg_intDiv {op : BinOp} {k : IntKind} {x y : Int} : yg H S P (fun v => y0 H S v) (Op.intDiv op k x y) := by
  unfold Op.intDiv
  split
  · exact yg_runtimePanicE
  · split <;> trivial
theorem yg_intBits {op : BinOp} {k : IntKind} {x y : Int} : yg H S P (fun v => y0 H S v) (Op.intBits op k x y) := by
  unfold Op.intBits
  dsimp only
  split <;> trivial
theorem yg_intCmp {op : BinOp} {x y : Int} : yg H S P (fun v => y0 H S v) (Op.intCmp op x y) := by unfold Op.intCmp; split <;> trivial
theorem yg_stringOp {op : BinOp} {x y : ByteArray} : yg H S P (fun v => y0 H S v) (Op.stringOp op x y) := by
  unfold Op.stringOp
  dsimp only
  split <;> first | trivial | (split <;> trivial)
theorem yg_eqGuardIn : ∀ (d : Nat) (t : TypeId) (x y : Value), yV H S x → yV H S y → yg H S P yT (Op.eqGuardIn d t x y)
  | 0, _, _, _, _, _ => trivial
  | d + 1, t, x, y, hx, hy => by
    unfold Op.eqGuardIn
    refine yg_bindT (yg_any yg_underlying) fun u => ?_
    split
    · exact trivial
    · refine yg_bindT (yg_forInA _ _ (fun f s => ?_) _) fun s => ?_
      · split
        · refine yg_bind (yg_part (y0_agg.1 hx)) fun a ha => ?_
          refine yg_bind (yg_part (y0_agg.1 hy)) fun b hb => ?_
          refine yg_bindT (yg_eqGuardIn d f.type a b (y1_yV ha) (y1_yV hb)) fun c => ?_
          split <;> trivial
        · trivial
      · dsimp only
        split <;> trivial
    · refine yg_bindT yg_sizeOf fun n => ?_
      refine yg_bindT (yg_forInR _ _ (fun i s => ?_) _) fun s => ?_
      · refine yg_bind (yg_part (y0_agg.1 hx)) fun a ha => ?_
        refine yg_bind (yg_part (y0_agg.1 hy)) fun b hb => ?_
        refine yg_bindT (yg_eqGuardIn d _ a b (y1_yV ha) (y1_yV hb)) fun c => ?_
        split <;> trivial
      · dsimp only
        split <;> trivial
    · trivial
theorem yg_eqGuard {op : BinOp} {t : TypeId} {ox oy : Operand} {x y : Value} (hx : yV H S x) (hy : yV H S y) : yg H S P yT (eqGuard op t ox oy x y) := by
  unfold eqGuard
  cases op
  all_goals first
    | exact trivial
    | skip
  all_goals
    simp only [Bool.not_true, Bool.false_eq_true, if_false]
    split
    · exact hx.elim
    · refine yg_bindT (yg_program trivial) fun p => ?_
      refine yg_bindT (yg_program trivial) fun p2 => ?_
      split
      · trivial
      · refine yg_bindT (yg_eqGuardIn _ _ _ _ hx hy) fun b => ?_
        split <;> trivial
    · trivial
theorem yg_binOp {op : BinOp} {t : TypeId} {x y : Value} (h1 : op ≠ .shl) (h2 : op ≠ .shr) (hc : ∀ k a b, x = .complex k a b → op ≠ .mul ∧ op ≠ .quo) (hx : yV H S x) (hy : yV H S y) : yg H S P (fun v => y0 H S v) (binOp op t x y) := by
  unfold binOp
  split
  · exact absurd rfl h1
  · exact absurd rfl h2
  · split
    · trivial
    · split <;> first | exact yg_intArith | exact yg_intDiv | exact yg_intBits | exact yg_intCmp
  · split
    · trivial
    · split <;> first | exact yg_floatArith | exact yg_floatCmp
  · split
    · trivial
    · exact yg_complexOp (hc _ _ _ rfl).1 (hc _ _ _ rfl).2
  · exact yg_stringOp
  · exact yg_bindT (yg_equalIn _ _ _ _ hx hy) fun _ => trivial
  · exact yg_bindT (yg_equalIn _ _ _ _ hx hy) fun _ => trivial
  · refine yg_bindT (yg_any yg_underlying) fun u => ?_
    split
    · exact yg_movedPointer hx
    · exact yg_movedNumber hx
  · exact yg_movedNumber hy
  · exact yg_movedNumber hx
  all_goals first
    | exact trivial
    | exact yg_bind (yg_behindNumber (hx _ rfl)) fun a ha => yg_bind (yg_behindNumber (hy _ rfl)) fun b hb => yg_addrSub ha hb
    | exact yg_bind (yg_behindNumber (hx _ rfl)) fun a ha => yg_bind (yg_behindNumber (hy _ rfl)) fun b hb => yg_addrCmp ha hb
    | exact yg_bind (yg_behindNumber (hx _ rfl)) fun a ha => yg_addrMod ha
    | exact yg_bind (yg_behindNumber (hy _ rfl)) fun a ha => yg_addrMod ha
end
end Go.Proofs.Ytmoajpkgdimdaaa
