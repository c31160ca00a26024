/- Computations that say no mark but 'no room' and 'extern', whatever the heap holds and whatever values they are handed. -/
import Derived.Test.YtmoajpkgdimdaaaSoloA
set_option linter.unusedVariables false
namespace Go.Proofs.Ytmoajpkgdimdaaa

def hOk : Halt → Prop
  | .panic _ | .stuck _ | .unsupported _ => True
  | _ => False
section
variable (P : Program)
def tg {α : Type} (Q : α → Prop) : Sem α → Prop
  | .pure a => Q a
  | .load _ _ k => ∀ v, tg Q (k v)
  | .store _ _ _ k => tg Q k
  | .new _ k => ∀ r, tg Q (k r)
  | .shape _ k => ∀ x, tg Q (k x)
  | .freeze _ _ k => tg Q k
  | .frozen _ k => ∀ b, tg Q (k b)
  | .getObj _ k => ∀ o, tg Q (k o)
  | .setObj _ _ _ => False
  | .choose _ k => ∀ n, tg Q (k n)
  | .sys _ _ => False
  | .program k => tg Q (k P)
  | .mark m k => okMark m ∧ tg Q k
  | .halt h => hOk h
end
section
variable {P : Program} {α β : Type}
theorem tg_mono {Q Q' : α → Prop} : ∀ {s : Sem α}, tg P Q s → (∀ a, Q a → Q' a) → tg P Q' s
  | .pure _, h, hq => hq _ h
  | .load _ _ _, h, hq => fun v => tg_mono (h v) hq
  | .store _ _ _ k, h, hq => tg_mono (s := k) h hq
  | .new _ _, h, hq => fun r => tg_mono (h r) hq
  | .shape _ _, h, hq => fun x => tg_mono (h x) hq
  | .freeze _ _ k, h, hq => tg_mono (s := k) h hq
  | .frozen _ _, h, hq => fun x => tg_mono (h x) hq
  | .getObj _ _, h, hq => fun o => tg_mono (h o) hq
  | .setObj _ _ _, h, _ => h
  | .choose _ _, h, hq => fun x => tg_mono (h x) hq
  | .sys _ _, h, _ => h
  | .program k, h, hq => tg_mono (s := k P) h hq
  | .mark _ _, h, hq => ⟨h.1, tg_mono h.2 hq⟩
  | .halt _, h, _ => h
theorem tg_bind' {Q : α → Prop} {R : β → Prop} {f : α → Sem β} : ∀ {s : Sem α}, tg P Q s → (∀ a, Q a → tg P R (f a)) → tg P R (s.bind f)
  | .pure _, h, hq => hq _ h
  | .load _ _ _, h, hq => fun v => tg_bind' (h v) hq
  | .store _ _ _ k, h, hq => tg_bind' (s := k) h hq
  | .new _ _, h, hq => fun r => tg_bind' (h r) hq
  | .shape _ _, h, hq => fun x => tg_bind' (h x) hq
  | .freeze _ _ k, h, hq => tg_bind' (s := k) h hq
  | .frozen _ _, h, hq => fun x => tg_bind' (h x) hq
  | .getObj _ _, h, hq => fun o => tg_bind' (h o) hq
  | .setObj _ _ _, h, _ => h
  | .choose _ _, h, hq => fun x => tg_bind' (h x) hq
  | .sys _ _, h, _ => h
  | .program k, h, hq => tg_bind' (s := k P) h hq
  | .mark _ _, h, hq => ⟨h.1, tg_bind' h.2 hq⟩
  | .halt _, h, _ => h
theorem tg_bind {Q : α → Prop} {R : β → Prop} {f : α → Sem β} {s : Sem α} (h : tg P Q s) (hf : ∀ a, Q a → tg P R (f a)) : tg P R (s >>= f) := tg_bind' h hf
theorem tg_any {Q : α → Prop} {s : Sem α} (h : tg P Q s) : tg P yT s := tg_mono h fun _ _ => trivial
theorem tg_bindT {R : β → Prop} {f : α → Sem β} {s : Sem α} (h : tg P yT s) (hf : ∀ a, tg P R (f a)) : tg P R (s >>= f) := tg_bind h fun a _ => hf a
theorem tg_pure {Q : α → Prop} {a : α} (h : Q a) : tg P Q (pure a) := h
theorem tg_ite {Q : α → Prop} {c : Prop} [Decidable c] {a b : Sem α} (ha : tg P Q a) (hb : tg P Q b) : tg P Q (if c then a else b) := by
  split
  · exact ha
  · exact hb
/-- What a run leaves. -/
def tgEnd (Q : α → Prop) (es : Array Event) (r : Result α × Array Event) : Prop :=
  (∃ u, r.2 = es ++ u ∧ ∀ e ∈ u, NoM e) ∧ match r.1 with
    | .ok a _ => Q a
    | .halt h _ => hOk h
theorem tgEnd.from {Q : α → Prop} {es u : Array Event} {r : Result α × Array Event} (h : tgEnd Q (es ++ u) r) (hu : ∀ e ∈ u, NoM e) : tgEnd Q es r := by
  obtain ⟨⟨v, hv, hv2⟩, h2⟩ := h
  refine ⟨⟨u ++ v, by rw [hv, Array.append_assoc], fun e he => ?_⟩, h2⟩
  rcases Array.mem_append.1 he with h | h
  · exact hu e h
  · exact hv2 e h
theorem tgEnd.push {Q : α → Prop} {es : Array Event} {e : Event} {r : Result α × Array Event} (h : tgEnd Q (es.push e) r) (he : NoM e) : tgEnd Q es r := by
  rw [Array.push_eq_append] at h
  exact h.from (by intro x hx; simp at hx; rw [hx]; exact he)
theorem tgEnd.stop {Q : α → Prop} {es : Array Event} {h : Halt} {w : World} (hh : hOk h) : tgEnd Q es ((.halt h w, es) : Result α × Array Event) := ⟨⟨#[], by simp, by simp⟩, hh⟩
theorem hOk_noCell {w : World} {a : Addr} {s : String} : hOk (w.noCell a s) := by unfold World.noCell; split <;> trivial
theorem hOk_farLoad {w : World} {a : Addr} {b : Bool} {h : Halt} (e : w.farLoad P a b = .error h) : hOk h := by
  unfold World.farLoad at e
  split at e
  · split at e
    · cases e
    · cases e; trivial
  · cases e; exact hOk_noCell
theorem hOk_farStore {w : World} {a : Addr} {v : Value} {b : Bool} {h : Halt} (e : w.farStore P a v b = .error h) : hOk h := by
  unfold World.farStore at e
  split at e
  · split at e
    · cases e
    · cases e; trivial
  · cases e; exact hOk_noCell
theorem nom_obj {r : Nat} {x y : Bool} : NoM ⟨.obj r, x, y⟩ := ⟨by simp, by simp, by simp⟩
theorem nom_cell' {a : Addr} {x y : Bool} : NoM ⟨.cell a, x, y⟩ := ⟨by simp, by simp, by simp⟩
theorem nom_mark {m : Mark} {x y : Bool} (h : okMark m) : NoM ⟨.mark m, x, y⟩ := by
  unfold NoM
  cases m <;> simp_all [okMark]
theorem nom_map {xs : List Addr} {x y : Bool} : ∀ e ∈ xs.toArray.map (fun a => (⟨.cell a, x, y⟩ : Event)), NoM e := by
  intro e he
  obtain ⟨a, _, rfl⟩ := Array.mem_map.1 he
  exact nom_cell'
theorem tg_run {Q : α → Prop} : ∀ {s : Sem α}, tg P Q s → ∀ (w : World) (es : Array Event), tgEnd Q es (s.runT P w es)
  | .pure _, h, w, es => ⟨⟨#[], by simp [Sem.runT], by simp⟩, h⟩
  | .load m a k, h, w, es => by
    simp only [Sem.runT]
    split
    · exact (tg_run (h _) w _).push nom_cell'
    · split
      · exact (tg_run (h _) w _).from nom_map
      · rename_i e; exact .stop (hOk_farLoad e)
  | .store m a v k, h, w, es => by
    have key : tgEnd Q es (match w.cell? a with
            | some _ => if w.frozen? a then (.halt (.unsupported (.unsafePointer "a write to bytes that a string shares")) w, es) else k.runT P (w.setCell a v) (es.push ⟨.cell a, true, m == .atomic⟩)
            | none => match w.farStore P a v (m == .atomic) with
              | .ok (w, touched) => k.runT P w (es ++ touched.toArray.map (⟨.cell ·, true, m == .atomic⟩))
              | .error h => (.halt h w, es)) := by
      split
      · split
        · exact .stop trivial
        · exact (tg_run (s := k) h _ _).push nom_cell'
      · split
        · exact (tg_run (s := k) h _ _).from nom_map
        · rename_i e; exact .stop (hOk_farStore e)
    cases v <;> first | exact key | exact .stop trivial
  | .new o k, h, w, es => tg_run (h _) _ es
  | .shape r k, h, w, es => tg_run (h _) w es
  | .freeze a n k, h, w, es => tg_run (s := k) h _ es
  | .frozen a k, h, w, es => tg_run (h _) w es
  | .getObj r k, h, w, es => by
    simp only [Sem.runT]
    split
    · exact .stop trivial
    · exact (tg_run (h _) w _).push nom_obj
    · exact .stop trivial
  | .setObj _ _ _, h, _, _ => h.elim
  | .choose q k, h, w, es => by
    simp only [Sem.runT]
    split
    · exact tg_run (h _) w es
    · exact tg_run (h _) _ es
  | .sys _ _, h, _, _ => h.elim
  | .program k, h, w, es => tg_run (s := k P) h w es
  | .mark m k, h, w, es => (tg_run h.2 w _).push (nom_mark h.1)
  | .halt h', h, w, es => .stop h
/-! ### what operations are made of -/
theorem tg_program {Q : Program → Prop} (h : Q P) : tg P Q program := h
theorem tg_shape {r : Nat} : tg P yT (shape r) := fun _ => trivial
theorem tg_frozen {a : Addr} : tg P yT (frozen a) := fun _ => trivial
theorem tg_choose {q : Question} : tg P yT (choose q) := fun _ => trivial
theorem tg_newObj {o : Obj} : tg P yT (newObj o) := fun _ => trivial
theorem tg_getObj {r : Nat} : tg P yT (getObj r) := fun _ => trivial
theorem tg_load {a : Addr} : tg P yT (load a) := fun _ => trivial
theorem tg_store {a : Addr} {v : Value} : tg P yT (store a v) := trivial
theorem tg_stuck {Q : α → Prop} {s : String} : tg P Q (stuck s : Sem α) := trivial
theorem tg_typeInfo {t : TypeId} : tg P (fun i => P.info? t = some i) (typeInfo t) := by
  refine tg_bind (Q := fun p => p = P) (tg_program rfl) ?_
  rintro p rfl
  split
  · rename_i i h; exact h
  · trivial
theorem tg_underlying {t : TypeId} : tg P (fun d => P.underlying t = some d) (underlying t) := by
  refine tg_bind (Q := fun p => p = P) (tg_program rfl) ?_
  rintro p rfl
  split
  · rename_i i h; exact h
  · trivial
theorem tg_sizeOf {t : TypeId} : tg P yT (sizeOf t) := tg_bindT (tg_any tg_typeInfo) fun _ => trivial
theorem tg_isAgg {t : TypeId} : tg P yT (isAgg t) := by
  refine tg_bindT (tg_any tg_underlying) fun d => ?_
  split <;> trivial
theorem tg_zeroValue {t : TypeId} : tg P yT (zeroValue t) := by
  refine tg_bindT (tg_any tg_typeInfo) fun i => ?_
  split <;> trivial
theorem tg_loadCellsFrom {a : Addr} : ∀ (n i : Nat) (acc : Array Value), tg P yT (loadCellsFrom a i n acc)
  | 0, _, acc => trivial
  | n + 1, i, acc => by
    unfold loadCellsFrom
    exact tg_bindT tg_load fun v => tg_loadCellsFrom n _ _
theorem tg_loadCells {a : Addr} (n : Nat) : tg P yT (loadCells a n) := tg_loadCellsFrom n 0 #[]
theorem tg_storeCells {a : Addr} : ∀ (vs : List Value) (i : Nat), tg P yT (storeCells a vs i)
  | [], _ => trivial
  | v :: r, i => by
    unfold storeCells
    exact tg_bindT tg_store fun _ => tg_storeCells r _
theorem tg_loadVar {t : TypeId} {a : Addr} : tg P yT (loadVar t a) := by
  unfold loadVar
  refine tg_bindT tg_isAgg fun b => ?_
  split
  · exact tg_bindT tg_sizeOf fun n => tg_bindT (tg_loadCells n) fun r => trivial
  · exact tg_load
theorem tg_storeVar {t : TypeId} {a : Addr} {v : Value} : tg P yT (storeVar t a v) := by
  unfold storeVar
  refine tg_bindT tg_sizeOf fun n => ?_
  split
  · exact tg_bindT tg_stuck fun _ => tg_storeCells _ _
  · exact tg_storeCells _ _
theorem tg_newRow {t : TypeId} {cs : Array Value} : tg P yT (newRow t cs) := tg_bindT tg_newObj fun _ => trivial
theorem tg_newVar {t : TypeId} {v : Value} : tg P yT (newVar t v) := tg_newRow
theorem tg_sureAddr {v : Value} : tg P yT (Instr.sureAddr v) := by unfold Instr.sureAddr; split <;> trivial
theorem tg_runtimePanicE {Q : α → Prop} {m : String} : tg P Q (runtimePanic (.error m) : Sem α) := trivial
theorem tg_runtimePanicN {Q : α → Prop} : tg P Q (runtimePanic .nilDeref : Sem α) := trivial
theorem tg_boundsPanic {Q : α → Prop} {k : IntKind} {x y : Int} {c : BoundsCode} : tg P Q (boundsPanic k x y c : Sem α) := by
  unfold boundsPanic
  split
  · refine tg_bindT ?_ fun _ => trivial
    exact fun _ => trivial
  · exact tg_bindT (tg_pure trivial) fun _ => trivial
theorem tg_asIntOf {v : Value} : tg P yT (asIntOf v) := by unfold asIntOf; split <;> trivial
theorem tg_asInt {v : Value} : tg P yT (asInt v) := tg_bindT tg_asIntOf fun _ => trivial
theorem tg_asBool {v : Value} : tg P yT (asBool v) := by unfold asBool; split <;> trivial
theorem tg_viewAt {r : Nat} : tg P yT (viewAt r) := by
  unfold viewAt
  refine tg_bindT tg_shape fun x => ?_
  split
  · trivial
  · refine tg_bindT tg_getObj fun o => ?_
    split <;> trivial
theorem tg_noView {a : Addr} : tg P yT (noView a) := by
  unfold noView
  refine tg_bindT tg_viewAt fun x => ?_
  split <;> trivial
theorem tg_numberAt {r : Nat} : tg P yT (numberAt r) := by
  unfold numberAt
  refine tg_bindT tg_shape fun x => ?_
  split
  · trivial
  · refine tg_bindT tg_getObj fun o => ?_
    split <;> trivial
theorem tg_behindNumber {n : Addr} : tg P yT (behindNumber n) := by
  unfold behindNumber
  exact tg_bindT tg_numberAt fun x => trivial
theorem tg_byteOf {a : Addr} : tg P yT (byteOf a) := by
  unfold byteOf
  split
  · trivial
  · refine tg_bindT (tg_program trivial) fun p => ?_
    refine tg_bindT tg_noView fun _ => ?_
    refine tg_bindT tg_shape fun x => ?_
    split
    · dsimp only
      split
      · trivial
      · split <;> trivial
    · trivial
theorem tg_floatArith {op : BinOp} {k : FloatKind} {x y : Nat} : tg P yT (Op.floatArith op k x y) := by
  have key : ∀ r : Option Nat, tg P yT (match r with | some r => pure (.float k r) | none => do pure (.float k (← choose (.nanBits k x y))) : Sem Value) := fun r => by
    split
    · trivial
    · exact tg_bindT tg_choose fun _ => trivial
  unfold Op.floatArith
  dsimp only
  split
  · exact tg_bindT (tg_pure trivial) key
  · exact tg_bindT (tg_pure trivial) key
  · exact tg_bindT (tg_pure trivial) key
  · exact tg_bindT (tg_pure trivial) key
  · exact tg_bindT tg_stuck key
theorem tg_floatCmp {op : BinOp} {k : FloatKind} {x y : Nat} : tg P yT (Op.floatCmp op k x y) := by
  unfold Op.floatCmp
  dsimp only
  split <;> trivial
theorem tg_intArith {op : BinOp} {k : IntKind} {x y : Int} : tg P yT (Op.intArith op k x y) := by unfold Op.intArith; split <;> trivial
theorem tg_intDiv {op : BinOp} {k : IntKind} {x y : Int} : tg P yT (Op.intDiv op k x y) := by
  unfold Op.intDiv
  split
  · exact tg_runtimePanicE
  · split <;> trivial
theorem tg_intBits {op : BinOp} {k : IntKind} {x y : Int} : tg P yT (Op.intBits op k x y) := by
  unfold Op.intBits
  dsimp only
  split <;> trivial
theorem tg_intCmp {op : BinOp} {x y : Int} : tg P yT (Op.intCmp op x y) := by unfold Op.intCmp; split <;> trivial
theorem tg_stringOp {op : BinOp} {x y : ByteArray} : tg P yT (Op.stringOp op x y) := by
  unfold Op.stringOp
  dsimp only
  split <;> first | trivial | (split <;> trivial)
theorem tg_unsafeAdd {t : TypeId} {x y : Value} : tg P yT (Builtin.unsafeAdd_ #[] t #[x, y]) := by
  cases x with
  | pointer ptr =>
    unfold Builtin.unsafeAdd_
    dsimp only
    refine tg_bindT tg_asInt fun n => ?_
    cases ptr with
    | none =>
      dsimp only
      split
      · exact tg_bindT (trivial : tg P yT (unsupported (.unsafePointer "Add: from nil") : Sem Unit)) fun _ => by split <;> trivial
      · split <;> trivial
    | some a =>
      have key : tg P yT (do
          match ← shape a.block with
          | some (e, cells) => do
            let p ← program
            match cellAtBytes p p.depth e (cells / p.cellsOf e) a.off n with
            | some off => pure (.pointer (some { a with off }))
            | none => unsupported (.unsafePointer "Add")
          | _ => unsupported (.unsafePointer "Add") : Sem Value) := by
        refine tg_bindT tg_shape fun s => ?_
        split
        · refine tg_bindT (tg_program trivial) fun p => ?_
          split <;> trivial
        · trivial
      dsimp only
      split
      · refine tg_bindT tg_viewAt fun b => ?_
        split <;> trivial
      · split
        · trivial
        · exact key
  | _ => exact trivial
theorem tg_movedNumber {t : TypeId} {x y : Value} : tg P yT (movedNumber t x y) := by
  have key : tg P yT (do
      let .pointer (some n) := x | Builtin.unsafeAdd_ #[] t #[x, y]
      let (a, lost) ← behindNumber n
      match ← Builtin.unsafeAdd_ #[] t #[.pointer (some a), y] with
      | .pointer (some b) => asNumber b lost
      | v => pure v : Sem Value) := by
    split
    · rename_i n
      refine tg_bindT tg_behindNumber fun a => ?_
      dsimp only
      refine tg_bindT tg_unsafeAdd fun v => ?_
      split
      · exact tg_bindT tg_newObj fun r => trivial
      · exact trivial
    · exact tg_unsafeAdd
  unfold movedNumber
  refine tg_bindT (tg_any tg_underlying) fun u => ?_
  dsimp only
  split
  · trivial
  · exact key
theorem tg_movedPointer {t : TypeId} {x y : Value} : tg P yT (movedPointer t x y) := by
  unfold movedPointer
  split
  · refine tg_bindT tg_numberAt fun o => ?_
    split
    · trivial
    · exact tg_unsafeAdd
  · exact tg_unsafeAdd
theorem tg_twoPlaces {a b : Addr} : tg P yT (Op.twoPlaces a b) := by
  unfold Op.twoPlaces
  refine tg_bindT (tg_program trivial) fun p => ?_
  split
  · trivial
  · exact tg_bindT tg_byteOf fun _ => tg_bindT tg_byteOf fun _ => trivial
theorem tg_addrSub {k : IntKind} {a b : Addr} : tg P yT (Op.addrSub k a b) := tg_bindT tg_twoPlaces fun _ => trivial
theorem tg_addrCmp {op : BinOp} {a b : Addr} : tg P yT (Op.addrCmp op a b) := tg_bindT tg_twoPlaces fun _ => by dsimp only; split <;> trivial
theorem tg_addrMod {k : IntKind} {a : Addr} {n : Int} : tg P yT (Op.addrMod k a n) := by
  unfold Op.addrMod
  refine tg_bindT tg_shape fun s => ?_
  split
  · refine tg_bindT (tg_any tg_typeInfo) fun i => ?_
    dsimp only
    split
    · trivial
    · exact tg_bindT tg_byteOf fun _ => trivial
  · trivial
theorem tg_equalNum {d : Nat} {t : TypeId} {x y : Value} {u : TypeDesc} (hu : P.underlying t = some u) (hn : isNum u = true) : tg P yT (Op.equalIn d t x y) := by
  cases d with
  | zero => exact trivial
  | succ d =>
    unfold Op.equalIn
    refine tg_bind tg_underlying fun u' hu' => ?_
    obtain rfl : u' = u := Option.some.inj (hu'.symm.trans hu)
    split
    all_goals first
      | exact trivial
      | exact absurd hn Bool.false_ne_true
      | (split <;> exact trivial)
      | skip
    all_goals
      refine tg_bindT tg_behindNumber fun a => ?_
      refine tg_bindT tg_behindNumber fun b => ?_
      dsimp only
      refine tg_bindT (tg_program trivial) fun p => ?_
      split
      · exact tg_bindT tg_byteOf fun _ => tg_bindT tg_byteOf fun _ => trivial
      · refine tg_bindT (tg_any tg_typeInfo) fun i => ?_
        split
        · split <;> trivial
        · trivial
end
end Go.Proofs.Ytmoajpkgdimdaaa
