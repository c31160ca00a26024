/- Tame operations: decided on their text. -/
import Derived.Test.YtmoajpkgdimdaaaTamA
set_option linter.unusedVariables false
namespace Go.Proofs.Ytmoajpkgdimdaaa

section
variable {P : Program} {α β : Type}
theorem tg_floatToFloat {s d : FloatKind} {b : Nat} : tg P yT (Conv.floatToFloat s b d) := by
  unfold Conv.floatToFloat
  split
  · trivial
  · split
    · exact tg_bindT tg_choose fun _ => trivial
    · trivial
    · dsimp only
      split
      · exact tg_bindT tg_choose fun _ => trivial
      · trivial
theorem tg_carith {op : BinOp} {k : FloatKind} {x y : Nat} : tg P yT (Op.Complex.arith op k x y) := by
  unfold Op.Complex.arith
  refine tg_bindT (tg_floatArith) fun v => ?_
  split <;> trivial
theorem tg_ccmp {op : BinOp} {k : FloatKind} {x y : Nat} : tg P yT (Op.Complex.cmp op k x y) := tg_bindT (tg_floatCmp) fun _ => tg_asBool
theorem tg_complexOp {op : BinOp} {k : FloatKind} {a b c d : Nat} (h1 : op ≠ .mul) (h2 : op ≠ .quo) : tg P yT (Op.complexOp op k a b c d) := by
  unfold Op.complexOp
  split
  · exact tg_bindT tg_carith fun _ => tg_bindT tg_carith fun _ => trivial
  · exact tg_bindT tg_carith fun _ => tg_bindT tg_carith fun _ => trivial
  · exact absurd rfl h1
  · exact absurd rfl h2
  · exact tg_bindT tg_ccmp fun _ => tg_bindT tg_ccmp fun _ => trivial
  · exact tg_bindT tg_ccmp fun _ => tg_bindT tg_ccmp fun _ => trivial
  · trivial
theorem tg_cconv {s d : FloatKind} {x : Nat} : tg P yT (Op.Complex.conv s x d) := by
  unfold Op.Complex.conv
  refine tg_ite trivial (tg_bindT (tg_floatToFloat) fun v => ?_)
  split <;> trivial
theorem tg_add {x y : Nat} : tg P yT (Op.Complex.add x y) := tg_carith
theorem tg_sub {x y : Nat} : tg P yT (Op.Complex.sub x y) := tg_carith
theorem tg_mul {x y : Nat} : tg P yT (Op.Complex.mul x y) := tg_carith
theorem tg_quo {x y : Nat} : tg P yT (Op.Complex.quo x y) := tg_carith
theorem tg_product {a b c d : Nat} : tg P yT (Op.Complex.product a b c d) :=
  tg_bindT tg_mul fun _ => tg_bindT tg_mul fun _ => tg_bindT tg_sub fun _ => tg_bindT tg_mul fun _ => tg_bindT tg_mul fun _ => tg_bindT tg_add fun _ => trivial
theorem tg_corrected {s a b c d : Nat} : tg P yT (Op.Complex.corrected s a b c d) :=
  tg_bindT tg_mul fun _ => tg_bindT tg_mul fun _ => tg_bindT tg_add fun _ => tg_bindT tg_mul fun _ => tg_bindT tg_mul fun _ => tg_bindT tg_mul fun _ => tg_bindT tg_sub fun _ => tg_bindT tg_mul fun _ => trivial
theorem tg_quotient {a b c d : Nat} : tg P yT (Op.Complex.quotient a b c d) := by
  unfold Op.Complex.quotient
  refine tg_bindT tg_ccmp fun g => ?_
  dsimp only
  have key : ∀ ef : Nat × Nat, tg P yT (do
      let (e, f) := ef
      let zero := (← Op.Complex.cmp .eql .f64 c 0) && (← Op.Complex.cmp .eql .f64 d 0)
      if !(Op.Complex.isNaN e && Op.Complex.isNaN f) then pure (e, f)
      else if zero && (!Op.Complex.isNaN a || !Op.Complex.isNaN b) then
        pure (← Op.Complex.mul (Op.Complex.copysign Op.Complex.inf c) a, ← Op.Complex.mul (Op.Complex.copysign Op.Complex.inf c) b)
      else if (Op.Complex.isInf a || Op.Complex.isInf b) && Op.Complex.isFinite c && Op.Complex.isFinite d then
        Op.Complex.corrected Op.Complex.inf (Op.Complex.inf2one a) (Op.Complex.inf2one b) c d
      else if (Op.Complex.isInf c || Op.Complex.isInf d) && Op.Complex.isFinite a && Op.Complex.isFinite b then
        Op.Complex.corrected 0 a b (Op.Complex.inf2one c) (Op.Complex.inf2one d)
      else pure (e, f) : Sem (Nat × Nat)) := fun ef => by
    dsimp only
    refine tg_bindT tg_ccmp fun _ => tg_bindT tg_ccmp fun _ => ?_
    exact tg_ite trivial (tg_ite (tg_bindT tg_mul fun _ => tg_bindT tg_mul fun _ => trivial) (tg_ite tg_corrected (tg_ite tg_corrected trivial)))
  refine tg_ite ?_ ?_
  · exact tg_bindT tg_quo fun _ => tg_bindT tg_mul fun _ => tg_bindT tg_add fun _ => tg_bindT tg_mul fun _ => tg_bindT tg_add fun _ => tg_bindT tg_quo fun _ => tg_bindT tg_mul fun _ => tg_bindT tg_sub fun _ => tg_bindT tg_quo fun _ => tg_bindT (tg_pure trivial) key
  · exact tg_bindT tg_quo fun _ => tg_bindT tg_mul fun _ => tg_bindT tg_add fun _ => tg_bindT tg_mul fun _ => tg_bindT tg_add fun _ => tg_bindT tg_quo fun _ => tg_bindT tg_mul fun _ => tg_bindT tg_sub fun _ => tg_bindT tg_quo fun _ => tg_bindT (tg_pure trivial) key
theorem tg_complexAll {op : BinOp} {k : FloatKind} {a b c d : Nat} : tg P yT (Op.complexOp op k a b c d) := by
  by_cases h : op = .mul ∨ op = .quo
  · rcases h with rfl | rfl
    · unfold Op.complexOp
      exact tg_bindT tg_cconv fun _ => tg_bindT tg_cconv fun _ => tg_bindT tg_cconv fun _ => tg_bindT tg_cconv fun _ => tg_bindT tg_product fun _ => tg_bindT tg_cconv fun _ => tg_bindT tg_cconv fun _ => trivial
    · unfold Op.complexOp
      exact tg_bindT tg_cconv fun _ => tg_bindT tg_cconv fun _ => tg_bindT tg_cconv fun _ => tg_bindT tg_cconv fun _ => tg_bindT tg_quotient fun _ => tg_bindT tg_cconv fun _ => tg_bindT tg_cconv fun _ => trivial
  · exact tg_complexOp (fun e => h (.inl e)) (fun e => h (.inr e))
theorem tg_complexToComplex {s d : FloatKind} {a b : Nat} : tg P yT (Conv.complexToComplex s a b d) := by
  unfold Conv.complexToComplex
  refine tg_bindT (tg_floatToFloat) fun v => ?_
  split
  · refine tg_bindT (tg_floatToFloat) fun v => ?_
    split <;> trivial
  · trivial
theorem tg_floatToInt {s : FloatKind} {b : Nat} {k : IntKind} : tg P yT (Conv.floatToInt s b k) := by
  unfold Conv.floatToInt
  dsimp only
  split
  · split
    · trivial
    · exact tg_bindT tg_choose fun _ => trivial
  · exact tg_bindT tg_choose fun _ => trivial
theorem tg_convert {src dst : TypeId} {s d : TypeDesc} {x : Value} (hs : P.underlying src = some s) (hd : P.underlying dst = some d) (hsn : isNum s = true) (hdn : isNum d = true) : tg P yT (convert src dst x) := by
  unfold convert
  refine tg_bind tg_underlying fun s' hs' => ?_
  obtain rfl : s' = s := Option.some.inj (hs'.symm.trans hs)
  refine tg_bind tg_underlying fun d' hd' => ?_
  obtain rfl : d' = d := Option.some.inj (hd'.symm.trans hd)
  cases s' <;> (try exact absurd hsn Bool.false_ne_true) <;> cases d' <;> (try exact absurd hdn Bool.false_ne_true) <;> cases x <;> first | exact trivial | exact tg_floatToFloat | exact tg_floatToInt | exact tg_complexToComplex | skip
  all_goals
    rename_i p
    cases p <;> exact trivial
theorem tg_unary {op : UnOp} {x : Value} : tg P yT (Op.unary op x) := by
  unfold Op.unary
  split <;> first | exact tg_intArith | exact tg_intBits | trivial
theorem tg_sliceBound {x : Value} {y : Nat} {c : BoundsCode} : tg P yT (Instr.sliceBound x y c) := by
  unfold Instr.sliceBound
  refine tg_bindT tg_asIntOf fun ki => ?_
  dsimp only
  split
  · trivial
  · exact tg_boundsPanic
theorem tg_sliceBounds {b : Bool} {l c : Nat} {lo hi mx : Option Value} : tg P yT (Instr.sliceBounds b l c lo hi mx) := by
  unfold Instr.sliceBounds
  have k3 : ∀ (m h : Nat), tg P yT (do
      let l ← match lo with
        | some v => Instr.sliceBound v h (if mx.isSome then .slice3C else .sliceB)
        | none => pure 0
      pure (l, h, m) : Sem (Nat × Nat × Nat)) := fun m h => by
    dsimp only
    split
    · exact tg_bindT tg_sliceBound fun _ => trivial
    · exact tg_bindT (tg_pure trivial) fun _ => trivial
  have k2 : ∀ m : Nat, tg P yT (do
      let h ← match hi, mx with
        | some v, some _ => Instr.sliceBound v m .slice3B
        | some v, none => Instr.sliceBound v m (if b then .sliceAcap else .sliceAlen)
        | none, none => pure l
        | none, some _ => stuck "Slice: max without high"
      let l ← match lo with
        | some v => Instr.sliceBound v h (if mx.isSome then .slice3C else .sliceB)
        | none => pure 0
      pure (l, h, m) : Sem (Nat × Nat × Nat)) := fun m => by
    dsimp only
    split
    · exact tg_bindT tg_sliceBound (k3 m)
    · exact tg_bindT tg_sliceBound (k3 m)
    · exact tg_bindT (tg_pure trivial) (k3 m)
    · exact tg_bindT tg_stuck (k3 m)
  dsimp only
  split
  · exact tg_bindT tg_sliceBound k2
  · exact tg_bindT (tg_pure trivial) k2
theorem tg_binNum {op : BinOp} {t : TypeId} {x y : Value} {u : TypeDesc} (h1 : op ≠ .shl) (h2 : op ≠ .shr) (hu : P.underlying t = some u) (hn : isNum u = true) : tg P yT (binOp op t x y) := by
  by_cases hc : ∃ k a b k' c d, x = .complex k a b ∧ y = .complex k' c d
  · obtain ⟨k, a, b, k', c, d, rfl, rfl⟩ := hc
    have : binOp op t (.complex k a b) (.complex k' c d) = if k ≠ k' then stuck "BinOp: operands of different kinds" else Op.complexOp op k a b c d := by cases op <;> rfl
    rw [this]
    have e : tg P yT (Op.complexOp op k a b c d) := tg_complexAll
    exact tg_ite trivial e
  · unfold binOp
    split
    · exact absurd rfl h1
    · exact absurd rfl h2
    · split
      · trivial
      · split <;> first | exact tg_intArith | exact tg_intDiv | exact tg_intBits | exact tg_intCmp
    · split
      · trivial
      · split <;> first | exact tg_floatArith | exact tg_floatCmp
    · exact absurd ⟨_, _, _, _, _, _, rfl, rfl⟩ hc
    · exact tg_stringOp
    · exact tg_bindT (tg_equalNum hu hn) fun _ => trivial
    · exact tg_bindT (tg_equalNum hu hn) fun _ => trivial
    · refine tg_bindT (tg_any tg_underlying) fun u => ?_
      split
      · exact tg_movedPointer
      · exact tg_movedNumber
    · exact tg_movedNumber
    · exact tg_movedNumber
    all_goals first
      | exact trivial
      | exact tg_bindT tg_behindNumber fun a => tg_bindT tg_behindNumber fun b => tg_addrSub
      | exact tg_bindT tg_behindNumber fun a => tg_bindT tg_behindNumber fun b => tg_addrCmp
      | exact tg_bindT tg_behindNumber fun a => tg_addrMod
theorem tg_eqGuardInNum {d : Nat} {t : TypeId} {x y : Value} {u : TypeDesc} (hu : P.underlying t = some u) (hn : isNum u = true) : tg P yT (Op.eqGuardIn d t x y) := by
  cases d with
  | zero => exact trivial
  | succ d =>
    unfold Op.eqGuardIn
    refine tg_bind tg_underlying fun u' hu' => ?_
    obtain rfl : u' = u := Option.some.inj (hu'.symm.trans hu)
    split
    all_goals first
      | exact trivial
      | exact absurd hn Bool.false_ne_true
theorem tg_eqGuardNum {op : BinOp} {t : TypeId} {ox oy : Operand} {x y : Value} {u : TypeDesc} (hu : P.underlying t = some u) (hn : isNum u = true) : tg P yT (eqGuard op t ox oy x y) := by
  unfold eqGuard
  cases op
  all_goals first
    | exact trivial
    | skip
  all_goals
    simp only [Bool.not_true, Bool.false_eq_true, if_false]
    split
    · repeat' (first
        | exact trivial
        | exact tg_eqGuardInNum hu hn
        | refine tg_bindT ?_ fun _ => ?_
        | apply tg_ite
        | split)
    · repeat' (first
        | exact trivial
        | exact tg_program trivial
        | exact tg_eqGuardInNum hu hn
        | refine tg_bindT ?_ fun _ => ?_
        | apply tg_ite
        | split)
    · trivial
theorem tg_box {t : TypeId} {v : Value} : tg P yT (Instr.box t v) := tg_bindT tg_newVar fun a => trivial
theorem tg_alloc {t : TypeId} : tg P yT (Instr.alloc t true (.tuple #[])) := by
  unfold Instr.alloc
  refine tg_bindT tg_zeroValue fun z => ?_
  dsimp only
  exact tg_bindT tg_newVar fun a => trivial
theorem tg_mapM {γ δ : Type} (f : γ → Sem δ) (h : ∀ x, tg P yT (f x)) (xs : Array γ) : tg P yT (xs.mapM f) := by
  rw [Array.mapM_eq_foldlM]
  rw [← Array.foldlM_toList]
  generalize (#[] : Array δ) = acc
  induction xs.toList generalizing acc with
  | nil => exact trivial
  | cons x l ih =>
    rw [List.foldlM_cons]
    refine tg_bindT ?_ fun a => ih a
    exact tg_bindT (h x) fun _ => trivial
theorem tg_build {t : TypeId} {parts : Array (Nat × Value)} : tg P yT (Instr.build t parts) := by
  unfold Instr.build
  refine tg_bindT tg_zeroValue fun z => ?_
  dsimp only
  refine tg_bindT (tg_any tg_underlying) fun u => ?_
  split
  · refine tg_bindT (tg_mapM _ (fun f => ?_) _) fun ps => ?_
    · exact tg_bindT tg_sizeOf fun _ => trivial
    · split <;> trivial
  · refine tg_bindT tg_sizeOf fun n => ?_
    split <;> trivial
  · trivial
theorem tg_fieldPlace {a : Addr} {f : Field} : tg P yT (fieldPlace a f) := by
  unfold fieldPlace
  refine tg_bindT tg_sizeOf fun n => ?_
  split
  · unfold partAt
    refine tg_bindT tg_byteOf fun b => ?_
    dsimp only
    exact tg_bindT tg_byteOf fun b2 => trivial
  · trivial
theorem tg_fieldAt {t : TypeId} {x : Value} {i : Nat} : tg P yT (Instr.fieldAt t x i) := by
  unfold Instr.fieldAt
  refine tg_bindT (tg_any tg_underlying) fun u => ?_
  split
  · split
    · exact tg_bindT tg_sureAddr fun a => tg_bindT tg_fieldPlace fun b => trivial
    · trivial
  · trivial
theorem tg_indexAt {t : TypeId} {x i : Value} : tg P yT (Instr.indexAt t x i) := by
  unfold Instr.indexAt
  refine tg_bindT tg_asIntOf fun ki => ?_
  obtain ⟨k, n⟩ := ki
  dsimp only
  refine tg_bindT (tg_any tg_underlying) fun u => ?_
  have key : ∀ r : Option Addr × Nat × TypeId, tg P yT (do
      let (base, len, elem) := r
      let tiny := len ≤ 1 && (match ← underlying t with | .array .. => true | _ => false)
      match base with
      | some a =>
        if 0 ≤ n ∧ n < len then pure (.pointer (some (a.add (n.toNat * (← sizeOf elem)))))
        else if tiny then unsupported (.noEntry "op/indexAddr.an index out of range at an array of length 0 or 1 (ledger 616)")
        else boundsPanic k n len .index
      | none => boundsPanic k n 0 .index : Sem Value) := fun r => by
    obtain ⟨base, len, elem⟩ := r
    dsimp only
    refine tg_bindT (tg_any tg_underlying) fun u => ?_
    split
    · split
      · exact tg_bindT tg_sizeOf fun m => trivial
      · exact tg_ite trivial tg_boundsPanic
    · exact tg_boundsPanic
  split
  · exact tg_bindT tg_sureAddr fun a => tg_bindT (tg_pure trivial) key
  · exact tg_bindT (tg_pure trivial) key
  · trivial
theorem tg_slice {t : TypeId} {x : Value} {lo hi mx : Option Value} : tg P yT (Instr.slice t x lo hi mx) := by
  unfold Instr.slice
  refine tg_bindT (tg_any tg_underlying) fun u => ?_
  split
  · dsimp only
    split
    · exact tg_bindT tg_stuck fun _ => tg_bindT tg_sliceBounds fun _ => trivial
    · exact tg_bindT tg_sliceBounds fun _ => trivial
  · refine tg_bindT tg_sliceBounds fun r => ?_
    dsimp only
    exact tg_bindT tg_sizeOf fun n => trivial
  · have key : tg P yT (asAddr x) := by
      unfold asAddr
      split
      · trivial
      · exact tg_runtimePanicN
      · trivial
    refine tg_bindT key fun a => ?_
    refine tg_bindT (tg_any tg_underlying) fun u => ?_
    split
    · refine tg_bindT tg_sliceBounds fun r => ?_
      dsimp only
      exact tg_bindT tg_sizeOf fun n => trivial
    · trivial
  · trivial
theorem tg_sliceAt {t : TypeId} {x : Value} {lo hi mx : Option Value} : tg P yT (Instr.sliceAt t x lo hi mx) := by
  unfold Instr.sliceAt
  refine tg_bindT (tg_any tg_underlying) fun u => ?_
  split
  · refine tg_bindT tg_sureAddr fun a => ?_
    refine tg_bindT tg_sliceBounds fun r => ?_
    dsimp only
    exact tg_bindT tg_sizeOf fun n => trivial
  · exact tg_slice
theorem tg_loadAt {t : TypeId} {x : Value} : tg P yT (Instr.loadAt t x) := tg_bindT tg_sureAddr fun _ => tg_loadVar
theorem tg_storeAt {t : TypeId} {x v : Value} : tg P yT (Instr.storeAt t x v) := tg_bindT tg_sureAddr fun _ => tg_storeVar
theorem tg_extract {x : Value} {i : Nat} : tg P yT (Instr.extract x i) := by
  unfold Instr.extract
  split
  · split <;> trivial
  · trivial
theorem tg_complex_ {ts : Array TypeId} {t : TypeId} {x y : Value} : tg P yT (Builtin.complex_ ts t #[x, y]) := by
  cases x <;> cases y <;> first | exact trivial | skip
  unfold Builtin.complex_
  exact tg_ite trivial trivial
theorem tg_len_ {ts : Array TypeId} {t : TypeId} {x : Value} : tg P yT (Builtin.len_ ts t #[x]) := by
  unfold Builtin.len_
  generalize ts[0]? = o
  cases o with
  | none => trivial
  | some t0 =>
    refine tg_bindT (tg_any tg_underlying) fun u => ?_
    repeat' (first
      | exact trivial
      | exact tg_getObj
      | exact tg_any tg_underlying
      | refine tg_bindT ?_ fun _ => ?_
      | split)
end
def tN (S : Nat → Bool) : Next → Prop
  | .value _ => True
  | .skip => True
  | .enter f _ => S f = true
  | _ => False
def okT (P : Program) (S : Nat → Bool) : Op → Bool
  | .move _ | .assign _ | .pick _ _ _ | .alloc _ | .box _ _ | .build _ _ | .load _ _ | .store _ _ _ | .unOp _ _ _ | .slice _ _ _ _ _ | .fieldAddr _ _ _ | .indexAddr _ _ _ | .extract _ _ | .nilCheck _ => true
  | .binOp op t _ _ _ => (match op with | .shl | .shr => false | _ => true) && numOk P t
  | .convert s d _ => numOk P s && numOk P d
  | .call c => match c.callee with
    | .builtin .complex => c.args.size == 2
    | .builtin .len => c.args.size == 1
    | .value (.func f) => S f
    | _ => false
  | _ => false
section
variable {P : Program} {S : Nat → Bool}
theorem tg_value {s : Sem Value} (h : tg P yT s) : tg P (tN S) (do pure (.value (← s))) := tg_bindT h fun _ => trivial
theorem tg_callFunc (hS : sOk P S) {k : Nat} (hk : S k = true) {args : Array Value} : tg P (tN S) (callFunc k args) := by
  obtain ⟨fn, h1, h2, h3⟩ := hS k hk
  unfold callFunc
  refine tg_bind (Q := fun p => p = P) (tg_program rfl) ?_
  rintro p rfl
  rw [h1]
  dsimp only
  rw [h2, h3]
  exact hk
theorem tg_part {t : TypeId} {cs : Array Value} {off : Nat} : tg P yT (part t cs off) := by
  unfold part
  refine tg_bindT tg_isAgg fun b => ?_
  split
  · exact tg_bindT tg_sizeOf fun n => trivial
  · split <;> trivial
theorem tg_followBlind : ∀ (l : List FieldStep) (t : TypeId) (v : Option Value), tg P yT (followBlind l t v)
  | [], _, _ => trivial
  | s :: l, t, v => by
    unfold followBlind
    refine tg_bindT (tg_any tg_underlying) fun u => ?_
    repeat' (first
      | exact trivial
      | exact tg_followBlind l _ _
      | exact tg_part
      | refine tg_bindT ?_ fun _ => ?_
      | split)
theorem tg_nilAhead : ∀ (n : Nat) (t : TypeId) (v : Value) (s : String), tg P yT (nilAhead n t v s)
  | 0, _, _, _ => trivial
  | n + 1, t, v, s => by
    unfold nilAhead
    refine tg_bindT (tg_any tg_typeInfo) fun i => ?_
    repeat' (first
      | exact trivial
      | exact tg_followBlind _ _ _
      | exact tg_nilAhead n _ _ _
      | exact tg_any tg_underlying
      | refine tg_bindT ?_ fun _ => ?_
      | split)
/-- A tame operation. -/
theorem okT_sound (hS : sOk P S) {o : Oper} (h : okT P S o.op = true) {ρ : Operand → Value} (hf : ∀ f, ρ (.func f) = .func (.func f) #[] #[]) : tg P (tN S) (execOp ρ o) := by
  obtain ⟨dst, op, ty, pos, after, guard⟩ := o
  dsimp only at h
  unfold execOp
  cases op <;> (try exact absurd h Bool.false_ne_true)
  all_goals dsimp only
  all_goals simp only [okT, Bool.and_eq_true] at h
  case move => exact trivial
  case assign => exact trivial
  case pick => exact tg_bindT tg_asBool fun b => by split <;> exact trivial
  case alloc => exact tg_value tg_alloc
  case box => exact tg_value tg_box
  case build => exact tg_value tg_build
  case load => exact tg_value tg_loadAt
  case store => exact tg_bindT tg_storeAt fun _ => trivial
  case nilCheck x =>
    repeat' (first
      | exact trivial
      | exact tg_nilAhead _ _ _ _
      | exact tg_program trivial
      | refine tg_bindT ?_ fun _ => ?_
      | split)
  case binOp op xt x y yt =>
    obtain ⟨u, e1, n1⟩ := num_of h.2
    refine tg_value (tg_bindT (tg_eqGuardNum e1 n1) fun _ => tg_binNum ?_ ?_ e1 n1)
    · rintro rfl; exact absurd h.1 Bool.false_ne_true
    · rintro rfl; exact absurd h.1 Bool.false_ne_true
  case unOp => exact tg_value tg_unary
  case convert =>
    obtain ⟨d1, e1, n1⟩ := num_of h.1
    obtain ⟨d2, e2, n2⟩ := num_of h.2
    exact tg_value (tg_convert e1 e2 n1 n2)
  case slice => exact tg_value tg_sliceAt
  case fieldAddr => exact tg_value tg_fieldAt
  case indexAddr => exact tg_value tg_indexAt
  case extract => exact tg_value tg_extract
  case call c =>
    obtain ⟨callee, args, argTypes⟩ := c
    unfold resolve
    dsimp only at h ⊢
    cases callee with
    | invoke r n => exact absurd h Bool.false_ne_true
    | builtin b =>
      cases b <;> (try exact absurd h Bool.false_ne_true)
      case complex =>
        obtain ⟨x, y, rfl⟩ := size2 h
        refine tg_value (show tg P yT (Builtin.complex_ argTypes ty (Array.map ρ #[x, y])) from ?_)
        rw [show Array.map ρ #[x, y] = #[ρ x, ρ y] by simp]
        exact tg_complex_
      case len =>
        obtain ⟨x, rfl⟩ := size1 h
        refine tg_value (show tg P yT (Builtin.len_ argTypes ty (Array.map ρ #[x])) from ?_)
        rw [show Array.map ρ #[x] = #[ρ x] by simp]
        exact tg_len_
    | value f =>
      cases f with
      | func k =>
        dsimp only
        rw [hf]
        unfold Deferred.ofValue
        exact tg_callFunc hS h
      | _ => exact absurd h Bool.false_ne_true
end
end Go.Proofs.Ytmoajpkgdimdaaa
