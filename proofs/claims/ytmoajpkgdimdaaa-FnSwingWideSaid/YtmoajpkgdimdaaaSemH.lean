/- The unary law for whole operations: which are good, decided on their text. -/
import Derived.Test.YtmoajpkgdimdaaaSemG
namespace Go.Proofs.Ytmoajpkgdimdaaa

section
variable {H : Nat → Prop} {S : Nat → Prop} {P : Program} {α β : Type}
theorem yg_cconv {s d : FloatKind} {x : Nat} : yg H S P yT (Op.Complex.conv s x d) := by
  unfold Op.Complex.conv
  refine yg_ite trivial (yg_bindT (yg_any yg_floatToFloat) fun v => ?_)
  split <;> trivial
theorem yg_add {x y : Nat} : yg H S P yT (Op.Complex.add x y) := yg_carith
theorem yg_sub {x y : Nat} : yg H S P yT (Op.Complex.sub x y) := yg_carith
theorem yg_mul {x y : Nat} : yg H S P yT (Op.Complex.mul x y) := yg_carith
theorem yg_quo {x y : Nat} : yg H S P yT (Op.Complex.quo x y) := yg_carith
theorem yg_product {a b c d : Nat} : yg H S P yT (Op.Complex.product a b c d) :=
  yg_bindT yg_mul fun _ => yg_bindT yg_mul fun _ => yg_bindT yg_sub fun _ => yg_bindT yg_mul fun _ => yg_bindT yg_mul fun _ => yg_bindT yg_add fun _ => trivial
theorem yg_corrected {s a b c d : Nat} : yg H S P yT (Op.Complex.corrected s a b c d) :=
  yg_bindT yg_mul fun _ => yg_bindT yg_mul fun _ => yg_bindT yg_add fun _ => yg_bindT yg_mul fun _ => yg_bindT yg_mul fun _ => yg_bindT yg_mul fun _ => yg_bindT yg_sub fun _ => yg_bindT yg_mul fun _ => trivial
theorem yg_quotient {a b c d : Nat} : yg H S P yT (Op.Complex.quotient a b c d) := by
  unfold Op.Complex.quotient
  refine yg_bindT yg_ccmp fun g => ?_
  dsimp only
  have key : ∀ ef : Nat × Nat, yg H S P yT (do
      let (e, f) := ef
      let zero := (← Op.Complex.cmp .eql .f64 c 0) && (← Op.Complex.cmp .eql .f64 d 0)
      if !(Op.Complex.isNaN e && Op.Complex.isNaN f) then pure (e, f)
      else if zero && (!Op.Complex.isNaN a || !Op.Complex.isNaN b) then
        pure (← Op.Complex.mul (Op.Complex.copysign Op.Complex.inf c) a, ← Op.Complex.mul (Op.Complex.copysign Op.Complex.inf c) b)
      else if (Op.Complex.isInf a || Op.Complex.isInf b) && Op.Complex.isFinite c && Op.Complex.isFinite d then
        Op.Complex.corrected Op.Complex.inf (Op.Complex.inf2one a) (Op.Complex.inf2one b) c d
      else if (Op.Complex.isInf c || Op.Complex.isInf d) && Op.Complex.isFinite a && Op.Complex.isFinite b then
        Op.Complex.corrected 0 a b (Op.Complex.inf2one c) (Op.Complex.inf2one d)
      else pure (e, f) : Sem (Nat × Nat)) := fun ef => by
    dsimp only
    refine yg_bindT yg_ccmp fun _ => yg_bindT yg_ccmp fun _ => ?_
    exact yg_ite trivial (yg_ite (yg_bindT yg_mul fun _ => yg_bindT yg_mul fun _ => trivial) (yg_ite yg_corrected (yg_ite yg_corrected trivial)))
  refine yg_ite ?_ ?_
  · exact yg_bindT yg_quo fun _ => yg_bindT yg_mul fun _ => yg_bindT yg_add fun _ => yg_bindT yg_mul fun _ => yg_bindT yg_add fun _ => yg_bindT yg_quo fun _ => yg_bindT yg_mul fun _ => yg_bindT yg_sub fun _ => yg_bindT yg_quo fun _ => yg_bindT (yg_pure trivial) key
  · exact yg_bindT yg_quo fun _ => yg_bindT yg_mul fun _ => yg_bindT yg_add fun _ => yg_bindT yg_mul fun _ => yg_bindT yg_add fun _ => yg_bindT yg_quo fun _ => yg_bindT yg_mul fun _ => yg_bindT yg_sub fun _ => yg_bindT yg_quo fun _ => yg_bindT (yg_pure trivial) key
theorem yg_complexAll {op : BinOp} {k : FloatKind} {a b c d : Nat} : yg H S P (fun v => y0 H S v) (Op.complexOp op k a b c d) := by
  by_cases h : op = .mul ∨ op = .quo
  · rcases h with rfl | rfl
    · unfold Op.complexOp
      exact yg_bindT yg_cconv fun _ => yg_bindT yg_cconv fun _ => yg_bindT yg_cconv fun _ => yg_bindT yg_cconv fun _ => yg_bindT yg_product fun _ => yg_bindT yg_cconv fun _ => yg_bindT yg_cconv fun _ => trivial
    · unfold Op.complexOp
      exact yg_bindT yg_cconv fun _ => yg_bindT yg_cconv fun _ => yg_bindT yg_cconv fun _ => yg_bindT yg_cconv fun _ => yg_bindT yg_quotient fun _ => yg_bindT yg_cconv fun _ => yg_bindT yg_cconv fun _ => trivial
  · exact yg_complexOp (fun e => h (.inl e)) (fun e => h (.inr e))
theorem yg_binAll {op : BinOp} {t : TypeId} {x y : Value} (h1 : op ≠ .shl) (h2 : op ≠ .shr) (hx : yV H S x) (hy : yV H S y) : yg H S P (fun v => y0 H S v) (binOp op t x y) := by
  by_cases hc : ∃ k a b k' c d, x = .complex k a b ∧ y = .complex k' c d
  · obtain ⟨k, a, b, k', c, d, rfl, rfl⟩ := hc
    have : binOp op t (.complex k a b) (.complex k' c d) = if k ≠ k' then stuck "BinOp: operands of different kinds" else Op.complexOp op k a b c d := by cases op <;> rfl
    rw [this]
    exact yg_ite trivial yg_complexAll
  · by_cases hk : ∃ k a b, x = .complex k a b
    · obtain ⟨k, a, b, rfl⟩ := hk
      by_cases hm : op = .mul ∨ op = .quo
      · have : ∀ (hy' : ∀ k' c d, y ≠ .complex k' c d), yg H S P (fun v => y0 H S v) (binOp op t (.complex k a b) y) := fun hy' => by
          rcases hm with rfl | rfl
          · cases y <;> first | exact trivial | exact absurd rfl (hy' _ _ _) | skip
          · cases y <;> first | exact trivial | exact absurd rfl (hy' _ _ _) | skip
        exact this fun k' c d e => hc ⟨k, a, b, k', c, d, rfl, e⟩
      · exact yg_binOp h1 h2 (fun _ _ _ _ => ⟨fun e => hm (.inl e), fun e => hm (.inr e)⟩) hx hy
    · exact yg_binOp h1 h2 (fun k a b e => absurd ⟨k, a, b, e⟩ hk) hx hy

/-- What an operation may hand on. -/
def yN (H : Nat → Prop) (S : Nat → Prop) : Next → Prop
  | .value v => yV H S v
  | .skip => True
  | .enter f args => S f ∧ ∀ a ∈ args, yV H S a
  | _ => False
end

/-! ### decided on the text -/
def kOk (S : Nat → Bool) : Value → Bool
  | .bool _ | .int _ _ | .float _ _ | .complex _ _ _ | .string _ | .pointer none | .slice none _ _ => true
  | .func (.func k) f c => S k && f.isEmpty && c.isEmpty
  | .tuple vs => vs.isEmpty
  | _ => false
def oOk (S : Nat → Bool) : Operand → Bool
  | .tmp _ => true
  | .const v => kOk S v
  | .func f => S f
  | .global _ => false
def k0 : Value → Bool
  | .bool _ | .int _ _ | .float _ _ | .complex _ _ _ | .string _ | .pointer none | .slice none _ _ => true
  | _ => false
def k1 : Value → Bool
  | .agg cs => cs.all k0
  | v => k0 v
def zeroOk (P : Program) (t : TypeId) : Bool := match P.info? t with
  | some i => match i.zero with
    | some v => k1 v
    | none => true
  | none => true
def elemOk (P : Program) (t : TypeId) : Bool := match P.underlying t with
  | some (.slice e) => zeroOk P e
  | _ => true
def numOk (P : Program) (t : TypeId) : Bool := match P.underlying t with
  | some d => isNum d
  | none => false
def okOp (P : Program) (S : Nat → Bool) : Op → Bool
  | .move x | .assign x => oOk S x
  | .pick c a b => oOk S c && oOk S a && oOk S b
  | .alloc e => zeroOk P e
  | .box _ x => oOk S x
  | .build t parts => zeroOk P t && parts.all fun p => oOk S p.2
  | .buildSlice t _ parts => elemOk P t && parts.all fun p => oOk S p.2
  | .load _ a => oOk S a
  | .store _ a x => oOk S a && oOk S x
  | .nilCheck x => oOk S x
  | .binOp op _ x y _ => (match op with | .shl | .shr => false | _ => true) && oOk S x && oOk S y
  | .unOp _ _ x => oOk S x
  | .convert s d x => numOk P s && numOk P d && oOk S x
  | .makeSlice t l c => elemOk P t && oOk S l && oOk S c
  | .slice _ x _ _ _ => oOk S x
  | .fieldAddr _ x _ => oOk S x
  | .indexAddr _ x _ => oOk S x
  | .extract x _ => oOk S x
  | .call c => match c.callee with
    | .builtin .append => c.args.size == 2 && c.argTypes.size == 2 && c.args.all (oOk S) && (match c.argTypes[0]? with | some t => elemOk P t | none => false)
    | .builtin .complex => c.args.size == 2
    | .builtin .imag => c.args.size == 1
    | .builtin .real => c.args.size == 1
    | .builtin .len => c.args.size == 1 && c.args.all (oOk S)
    | .value f => oOk S f && c.args.all (oOk S)
    | _ => false
  | _ => false

section
variable {H : Nat → Prop} {P : Program} {S : Nat → Bool}
abbrev sP (S : Nat → Bool) : Nat → Prop := fun k => S k = true
/-- How operands are read: what stands in slots is young. -/
structure yR (H : Nat → Prop) (S : Nat → Bool) (ρ : Operand → Value) : Prop where
  tmp : ∀ t, yV H (sP S) (ρ (.tmp t))
  const : ∀ v, ρ (.const v) = v
  func : ∀ f, ρ (.func f) = .func (.func f) #[] #[]
/-- The allowed functions have bodies. -/
def sOk (P : Program) (S : Nat → Bool) : Prop := ∀ k, S k = true → ∃ fn, P.funcs[k]? = some fn ∧ fn.body.isNone = false ∧ (fn.name == "runtime.NumGoroutine") = false
theorem kOk_yV : ∀ {v : Value}, kOk S v = true → yV H (sP S) v
  | .bool _, _ | .int _ _, _ | .float _ _, _ | .complex _ _ _, _ | .string _, _ => trivial
  | .pointer none, _ => fun x hx => by cases hx
  | .slice none _ _, _ => fun x hx => by cases hx
  | .pointer (some _), h => by simp [kOk] at h
  | .slice (some _) _ _, h => by simp [kOk] at h
  | .func (.func k) f c, h => by
    simp only [kOk, Bool.and_eq_true, Array.isEmpty_iff] at h
    exact ⟨⟨k, rfl, h.1.1⟩, h.1.2, h.2⟩
  | .func (.method _) _ _, h | .func (.methodOf _ _) _ _, h | .func (.via _ _ _ _) _ _, h | .func (.yield _) _ _, h => by simp [kOk] at h
  | .tuple vs, h => by
    simp only [kOk, Array.isEmpty_iff] at h
    subst h
    exact y0_tuple.2 (by simp)
  | .map _, h | .chan _, h | .nilFunc, h | .iface _ _, h | .nilIface, h | .agg _, h => by simp [kOk] at h
theorem yR.of {ρ : Operand → Value} (hr : yR H S ρ) {x : Operand} (h : oOk S x = true) : yV H (sP S) (ρ x) := by
  cases x with
  | tmp t => exact hr.tmp t
  | const v => rw [hr.const]; exact kOk_yV h
  | func f => rw [hr.func]; exact ⟨⟨f, rfl, h⟩, rfl, rfl⟩
  | global g => exact absurd h Bool.false_ne_true
theorem k0_y0 : ∀ {v : Value}, k0 v = true → y0 H (sP S) v
  | .bool _, _ | .int _ _, _ | .float _ _, _ | .complex _ _ _, _ | .string _, _ => trivial
  | .pointer none, _ => fun x hx => by cases hx
  | .slice none _ _, _ => fun x hx => by cases hx
  | .pointer (some _), h => by simp [k0] at h
  | .slice (some _) _ _, h => by simp [k0] at h
  | .map _, h | .chan _, h | .func _ _ _, h | .nilFunc, h | .iface _ _, h | .nilIface, h | .agg _, h | .tuple _, h => by simp [k0] at h
theorem k1_y1 : ∀ {v : Value}, k1 v = true → y0 H (sP S) v
  | .agg cs, h => by
    simp only [k1, Array.all_eq_true_iff_forall_mem] at h
    exact y0_agg.2 fun c hc => k0_y0 (h c hc)
  | .bool b, h => k0_y0 (v := .bool b) h
  | .int a b, h => k0_y0 (v := .int a b) h
  | .float a b, h => k0_y0 (v := .float a b) h
  | .complex a b c, h => k0_y0 (v := .complex a b c) h
  | .string a, h => k0_y0 (v := .string a) h
  | .pointer a, h => k0_y0 (v := .pointer a) h
  | .slice a b c, h => k0_y0 (v := .slice a b c) h
  | .map a, h => k0_y0 (v := .map a) h
  | .chan a, h => k0_y0 (v := .chan a) h
  | .func a b c, h => k0_y0 (v := .func a b c) h
  | .nilFunc, h => k0_y0 (v := .nilFunc) h
  | .iface a b, h => k0_y0 (v := .iface a b) h
  | .nilIface, h => k0_y0 (v := .nilIface) h
  | .tuple a, h => k0_y0 (v := .tuple a) h
theorem zOk_of {t : TypeId} (h : zeroOk P t = true) : zOk H (sP S) P t := by
  intro i v hi hv
  simp only [zeroOk, hi, hv] at h
  exact k1_y1 h
theorem elem_of {t : TypeId} (h : elemOk P t = true) : ∀ e, P.underlying t = some (.slice e) → zOk H (sP S) P e := by
  intro e he
  simp only [elemOk, he] at h
  exact zOk_of h
theorem parts_of {ρ : Operand → Value} (hr : yR H S ρ) {parts : Array (Nat × Operand)} (h : parts.all (fun p => oOk S p.2) = true) : ∀ p ∈ (parts.map fun (i, x) => (i, ρ x)).toList, ∀ c ∈ p.2.cells, y0 H (sP S) c := by
  intro p hp c hc
  obtain ⟨q, hq, rfl⟩ := Array.mem_map.1 (Array.mem_toList_iff.1 hp)
  rw [Array.all_eq_true_iff_forall_mem] at h
  exact y1_cells (hr.of (h q hq)) c hc
theorem args_of {ρ : Operand → Value} (hr : yR H S ρ) {xs : Array Operand} (h : xs.all (oOk S) = true) : ∀ a ∈ xs.map ρ, yV H (sP S) a := by
  intro a ha
  obtain ⟨x, hx, rfl⟩ := Array.mem_map.1 ha
  rw [Array.all_eq_true_iff_forall_mem] at h
  exact hr.of (h x hx)
theorem yg_value {s : Sem Value} (h : yg H (sP S) P (fun v => y0 H (sP S) v) s) : yg H (sP S) P (yN H (sP S)) (do pure (.value (← s))) := yg_bind h fun _ hv => hv
theorem yg_callFunc (hS : sOk P S) {k : Nat} (hk : S k = true) {args : Array Value} (ha : ∀ a ∈ args, yV H (sP S) a) : yg H (sP S) P (yN H (sP S)) (callFunc k args) := by
  obtain ⟨fn, h1, h2, h3⟩ := hS k hk
  unfold callFunc
  refine yg_bind (Q := fun p => p = P) (yg_program rfl) ?_
  rintro p rfl
  rw [h1]
  dsimp only
  rw [h2, h3]
  exact ⟨hk, ha⟩
theorem size2 {α : Type} {a : Array α} (h : (a.size == 2) = true) : ∃ x y, a = #[x, y] := by
  obtain ⟨l⟩ := a
  match l, h with
  | [x, y], _ => exact ⟨x, y, rfl⟩
theorem size1 {α : Type} {a : Array α} (h : (a.size == 1) = true) : ∃ x, a = #[x] := by
  obtain ⟨l⟩ := a
  match l, h with
  | [x], _ => exact ⟨x, rfl⟩
theorem num_of {t : TypeId} (h : numOk P t = true) : ∃ d, P.underlying t = some d ∧ isNum d = true := by
  unfold numOk at h
  split at h
  · exact ⟨_, by assumption, h⟩
  · cases h
/-- A good operation stays young. -/
theorem okOp_sound (hS : sOk P S) {o : Oper} (h : okOp P S o.op = true) {ρ : Operand → Value} (hr : yR H S ρ) : yg H (sP S) P (yN H (sP S)) (execOp ρ o) := by
  obtain ⟨dst, op, ty, pos, after, guard⟩ := o
  dsimp only at h
  unfold execOp
  cases op <;> (try exact absurd h Bool.false_ne_true)
  all_goals dsimp only
  all_goals simp only [okOp, Bool.and_eq_true] at h
  case move => exact hr.of h
  case assign => exact hr.of h
  case pick => exact yg_bindT yg_asBool fun b => by split <;> first | exact yg_pure (hr.of h.1.2) | exact yg_pure (hr.of h.2)
  case alloc => exact yg_value (yg_alloc (zOk_of h))
  case box => exact yg_value (yg_box (y1_cells (hr.of h)))
  case build => exact yg_value (yg_build (zOk_of h.1) (parts_of hr h.2))
  case buildSlice => exact yg_value (yg_buildSlice (elem_of h.1) (parts_of hr h.2))
  case load => exact yg_value (yg_loadAt (hr.of h))
  case store => exact yg_bindT (yg_storeAt (hr.of h.1) (y1_cells (hr.of h.2))) fun _ => trivial
  case nilCheck x =>
    have hx := hr.of h
    split
    · trivial
    · trivial
    · trivial
    · rename_i he
      rw [he] at hx
      obtain ⟨⟨k, hk, -⟩, -, -⟩ := hx
      cases hk
    · exact hx
  case binOp op xt x y yt =>
    refine yg_value (yg_bindT (yg_eqGuard (hr.of h.1.2) (hr.of h.2)) fun _ => yg_binAll ?_ ?_ (hr.of h.1.2) (hr.of h.2))
    · rintro rfl; exact absurd h.1.1 Bool.false_ne_true
    · rintro rfl; exact absurd h.1.1 Bool.false_ne_true
  case unOp => exact yg_value yg_unary
  case convert =>
    obtain ⟨d1, e1, n1⟩ := num_of h.1.1
    obtain ⟨d2, e2, n2⟩ := num_of h.1.2
    exact yg_value (yg_convert e1 e2 n1 n2)
  case makeSlice => exact yg_value (yg_makeSlice (elem_of h.1.1))
  case slice => exact yg_value (yg_sliceAt (hr.of h))
  case fieldAddr => exact yg_value (yg_fieldAt (hr.of h))
  case indexAddr => exact yg_value (yg_indexAt (hr.of h))
  case extract => exact yg_value (yg_extract (hr.of h))
  case call c =>
    obtain ⟨callee, args, argTypes⟩ := c
    unfold resolve
    dsimp only at h ⊢
    cases callee with
    | invoke r n => exact absurd h Bool.false_ne_true
    | builtin b =>
      cases b <;> (try exact absurd h Bool.false_ne_true)
      case append =>
        simp only [Bool.and_eq_true] at h
        obtain ⟨⟨⟨h1, h2⟩, h3⟩, h4⟩ := h
        obtain ⟨x, y, rfl⟩ := size2 h1
        obtain ⟨t1, t2, rfl⟩ := size2 h2
        rw [Array.all_eq_true_iff_forall_mem] at h3
        refine yg_value (show yg H (sP S) P (fun v => y0 H (sP S) v) (Builtin.append_ #[t1, t2] ty (Array.map ρ #[x, y])) from ?_)
        rw [show Array.map ρ #[x, y] = #[ρ x, ρ y] by simp]
        exact yg_append (elem_of h4) (hr.of (h3 x (by simp))) (hr.of (h3 y (by simp)))
      case complex =>
        obtain ⟨x, y, rfl⟩ := size2 h
        refine yg_value (show yg H (sP S) P (fun v => y0 H (sP S) v) (Builtin.complex_ argTypes ty (Array.map ρ #[x, y])) from ?_)
        rw [show Array.map ρ #[x, y] = #[ρ x, ρ y] by simp]
        exact yg_complex_
      case imag =>
        obtain ⟨x, rfl⟩ := size1 h
        refine yg_value (show yg H (sP S) P (fun v => y0 H (sP S) v) (Builtin.imag_ argTypes ty (Array.map ρ #[x])) from ?_)
        rw [show Array.map ρ #[x] = #[ρ x] by simp]
        exact yg_imag_
      case real =>
        obtain ⟨x, rfl⟩ := size1 h
        refine yg_value (show yg H (sP S) P (fun v => y0 H (sP S) v) (Builtin.real_ argTypes ty (Array.map ρ #[x])) from ?_)
        rw [show Array.map ρ #[x] = #[ρ x] by simp]
        exact yg_real_
      case len =>
        simp only [Bool.and_eq_true] at h
        obtain ⟨x, rfl⟩ := size1 h.1
        have h3 := h.2
        rw [Array.all_eq_true_iff_forall_mem] at h3
        refine yg_value (show yg H (sP S) P (fun v => y0 H (sP S) v) (Builtin.len_ argTypes ty (Array.map ρ #[x])) from ?_)
        rw [show Array.map ρ #[x] = #[ρ x] by simp]
        exact yg_len_ (hr.of (h3 x (by simp)))
    | value f =>
      simp only [Bool.and_eq_true] at h
      have hf := hr.of h.1
      have ha := args_of hr h.2
      dsimp only
      unfold Deferred.ofValue
      cases hv : ρ f <;> first | exact trivial | skip
      · rename_i fn first captured
        rw [hv] at hf
        obtain ⟨⟨k, rfl, hk⟩, rfl, rfl⟩ := hf
        refine yg_callFunc hS hk fun a hm => ?_
        simp at hm
        exact ha a (by simpa using hm)
end
end Go.Proofs.Ytmoajpkgdimdaaa
