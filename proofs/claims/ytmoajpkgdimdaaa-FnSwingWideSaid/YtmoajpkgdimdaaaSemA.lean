/- The library's functions of sync.WaitGroup in this program, by their numbers. A unary law of computations: what they touch is young (in blocks from H on), they say neither 'disable' nor 'enable', and they hand on young values alone. -/
import Derived.Test.YtmoajpkgdimdaaaChecked
import Derived.Conc.WgGenN3
import Derived.Conc.Own
import Derived.RunT
section -- a part
namespace Go.Proofs.Ytmoajpkgdimdaaa
open Go.Conc Go.ConcR Go.RowKit Go.Conc.Lib

abbrev wlink : WgLink := { add := 22, done := 24, wait := 28, relMerge := 37, disable := 38, enable := 39, inBubble := 40, associate := 41, fatal := 42, uOr := 43, uAdd := 44, raceRead := 45, uLoad := 46, uStore := 47, disassociate := 48, semrelease := 49, acquire := 51, isAssociated := 52, uCas := 53, raceWrite := 54, semacquire := 55, orU64 := 59, addU64 := 60, loadU64 := 61, storeU64 := 62, casU64 := 63, tWgP := 68, tUP := 70, tAssoc := 72, tWg := 55, tAU := 52, tU64 := 50, tUint := 76, tU32 := 53, tPU32 := 77, tPAU := 90, tPU64 := 92, tNoCopy := 47, tANoCopy := 48, tAlign64 := 49 }
theorem wlib : WgLib Try.prog wlink :=
  ⟨Try.func22, Try.func24, Try.func28, Try.func37, Try.func38, Try.func39, Try.func40, Try.func41, Try.func42, Try.func43, Try.func44, Try.func45, Try.func46, Try.func47, Try.func48, Try.func49, Try.func51, Try.func52, Try.func53, Try.func54, Try.func55, Try.func59, Try.func60, Try.func61, Try.func62, Try.func63, Try.underlying68, Try.runUnderlying68, Try.sizeOf68, Try.isAgg68, Try.zeroValue68, Try.underlying70, Try.runUnderlying70, Try.sizeOf70, Try.isAgg70, Try.zeroValue70, Try.underlying72, Try.runUnderlying72, Try.sizeOf72, Try.isAgg72, Try.zeroValue72, Try.underlying55, Try.runUnderlying55, Try.sizeOf55, Try.isAgg55, Try.zeroValue55, Try.underlying52, Try.runUnderlying52, Try.sizeOf52, Try.isAgg52, Try.zeroValue52, Try.underlying50, Try.runUnderlying50, Try.sizeOf50, Try.isAgg50, Try.zeroValue50, Try.underlying76, Try.runUnderlying76, Try.sizeOf76, Try.isAgg76, Try.zeroValue76, Try.underlying53, Try.runUnderlying53, Try.sizeOf53, Try.isAgg53, Try.zeroValue53, Try.underlying77, Try.runUnderlying77, Try.sizeOf77, Try.isAgg77, Try.zeroValue77, Try.underlying90, Try.runUnderlying90, Try.sizeOf90, Try.isAgg90, Try.zeroValue90, Try.underlying92, Try.runUnderlying92, Try.sizeOf92, Try.isAgg92, Try.zeroValue92, Try.underlying0, Try.runUnderlying0, Try.sizeOf0, Try.isAgg0, Try.zeroValue0, Try.underlying3, Try.runUnderlying3, Try.sizeOf3, Try.isAgg3, Try.zeroValue3, Try.underlying4, Try.runUnderlying4, Try.sizeOf4, Try.isAgg4, Try.zeroValue4, Try.underlying9, Try.runUnderlying9, Try.sizeOf9, Try.isAgg9, Try.zeroValue9, Try.underlying20, Try.runUnderlying20, Try.sizeOf20, Try.isAgg20, Try.zeroValue20, Try.underlying21, Try.runUnderlying21, Try.sizeOf21, Try.isAgg21, Try.zeroValue21, (by kernel_rfl), (by kernel_rfl)⟩
instance swingPay : Payload := ⟨25⟩
end Go.Proofs.Ytmoajpkgdimdaaa
end
section -- a part
namespace Go.Proofs.Ytmoajpkgdimdaaa

section
variable (H : Nat → Prop) (S : Nat → Prop)
mutual
/-- A young value. -/
def y0 : Value → Prop
  | .bool _ => True
  | .int _ _ => True
  | .float _ _ => True
  | .complex _ _ _ => True
  | .string _ => True
  | .pointer a => ∀ x, a = some x → H x.block
  | .slice a _ _ => ∀ x, a = some x → H x.block
  | .func fn f c => (∃ k, fn = .func k ∧ S k) ∧ f = #[] ∧ c = #[]
  | .agg cs => yA cs
  | .tuple vs => yA vs
  | .map _ => False
  | .chan _ => False
  | .nilFunc => False
  | .iface _ _ => False
  | .nilIface => False
def yA : Array Value → Prop
  | ⟨l⟩ => yL l
def yL : List Value → Prop
  | [] => True
  | v :: l => y0 v ∧ yL l
end
abbrev y1 : Value → Prop := y0 H S
abbrev yV : Value → Prop := y0 H S
def yO : Obj → Prop
  | .cells c _ _ => ∀ x ∈ c, y0 H S x
  | .number a _ => H a.block
  | .view _ _ => False
  | .pending _ _ => False
  | _ => True
def okHalt : Halt → Prop
  | .panic _ => True
  | .stuck _ => True
  | .unsupported (.initOrder _) => False
  | .unsupported _ => True
  | _ => False
def okMark : Mark → Prop
  | .noRoom => True
  | .extern _ => True
  | _ => False
def yEv (e : Event) : Prop := (∃ a, e.loc = .cell a ∧ H a.block) ∨ (∃ r, e.loc = .obj r ∧ H r) ∨ ∃ m, e.loc = .mark m ∧ okMark m
structure yHeap (w : World) : Prop where
  size : ∀ b, w.heap.size ≤ b → H b
  obj : ∀ b o, H b → w.heap[b]? = some o → yO H S o
structure yStep (w w' : World) : Prop where
  old : ∀ b, ¬ H b → w'.heap[b]? = w.heap[b]?
  heap : yHeap H S w'
  size : w.heap.size ≤ w'.heap.size
  os : w'.os = w.os
  tape : w'.tape = w.tape
  output : w'.output = w.output
  drawn : w.drawn ≤ w'.drawn
variable (P : Program)
def yg {α : Type} (Q : α → Prop) : Sem α → Prop
  | .pure a => Q a
  | .load _ a k => H a.block ∧ ∀ v, y0 H S v → yg Q (k v)
  | .store _ a v k => H a.block ∧ yV H S v ∧ yg Q k
  | .new o k => yO H S o ∧ ∀ r, H r → yg Q (k r)
  | .shape _ k => ∀ x, yg Q (k x)
  | .freeze a _ k => H a.block ∧ yg Q k
  | .frozen _ k => ∀ b, yg Q (k b)
  | .getObj r k => H r ∧ ∀ o, yO H S o → yg Q (k o)
  | .setObj _ _ _ => False
  | .choose _ k => ∀ n, yg Q (k n)
  | .sys _ _ => False
  | .program k => yg Q (k P)
  | .mark m k => okMark m ∧ yg Q k
  | .halt h => okHalt h
end

section
variable {H : Nat → Prop} {S : Nat → Prop} {P : Program} {α β : Type}
theorem yL_iff : ∀ {l : List Value}, yL H S l ↔ ∀ v ∈ l, y0 H S v
  | [] => by simp [yL]
  | v :: l => by simp only [yL, List.mem_cons, forall_eq_or_imp, yL_iff]
theorem yA_iff {a : Array Value} : yA H S a ↔ ∀ v ∈ a, y0 H S v := by
  obtain ⟨l⟩ := a
  simp only [yA, yL_iff, List.mem_toArray]
theorem y0_agg {cs : Array Value} : y0 H S (.agg cs) ↔ ∀ c ∈ cs, y0 H S c := yA_iff
theorem y0_tuple {cs : Array Value} : y0 H S (.tuple cs) ↔ ∀ c ∈ cs, y0 H S c := yA_iff
theorem yStep.refl {w : World} (h : yHeap H S w) : yStep H S w w := ⟨fun _ _ => rfl, h, Nat.le_refl _, rfl, rfl, rfl, Nat.le_refl _⟩
theorem yStep.trans {w w1 w2 : World} (h : yStep H S w w1) (h2 : yStep H S w1 w2) : yStep H S w w2 :=
  ⟨fun b hb => (h2.old b hb).trans (h.old b hb), h2.heap, Nat.le_trans h.size h2.size, h2.os.trans h.os, h2.tape.trans h.tape, h2.output.trans h.output, Nat.le_trans h.drawn h2.drawn⟩
theorem yg_mono {Q Q' : α → Prop} : ∀ {s : Sem α}, yg H S P Q s → (∀ a, Q a → Q' a) → yg H S P Q' s
  | .pure _, h, hq => hq _ h
  | .load _ _ _, h, hq => ⟨h.1, fun v hv => yg_mono (h.2 v hv) hq⟩
  | .store _ _ _ _, h, hq => ⟨h.1, h.2.1, yg_mono h.2.2 hq⟩
  | .new _ _, h, hq => ⟨h.1, fun r hr => yg_mono (h.2 r hr) hq⟩
  | .shape _ _, h, hq => fun x => yg_mono (h x) hq
  | .freeze _ _ _, h, hq => ⟨h.1, yg_mono h.2 hq⟩
  | .frozen _ _, h, hq => fun x => yg_mono (h x) hq
  | .getObj _ _, h, hq => ⟨h.1, fun o ho => yg_mono (h.2 o ho) hq⟩
  | .setObj _ _ _, h, _ => h
  | .choose _ _, h, hq => fun x => yg_mono (h x) hq
  | .sys _ _, h, _ => h
  | .program k, h, hq => yg_mono (s := k P) h hq
  | .mark _ _, h, hq => ⟨h.1, yg_mono h.2 hq⟩
  | .halt _, h, _ => h
theorem yg_bind' {Q : α → Prop} {R : β → Prop} {f : α → Sem β} : ∀ {s : Sem α}, yg H S P Q s → (∀ a, Q a → yg H S P R (f a)) → yg H S P R (s.bind f)
  | .pure _, h, hq => hq _ h
  | .load _ _ _, h, hq => ⟨h.1, fun v hv => yg_bind' (h.2 v hv) hq⟩
  | .store _ _ _ _, h, hq => ⟨h.1, h.2.1, yg_bind' h.2.2 hq⟩
  | .new _ _, h, hq => ⟨h.1, fun r hr => yg_bind' (h.2 r hr) hq⟩
  | .shape _ _, h, hq => fun x => yg_bind' (h x) hq
  | .freeze _ _ _, h, hq => ⟨h.1, yg_bind' h.2 hq⟩
  | .frozen _ _, h, hq => fun x => yg_bind' (h x) hq
  | .getObj _ _, h, hq => ⟨h.1, fun o ho => yg_bind' (h.2 o ho) hq⟩
  | .setObj _ _ _, h, _ => h
  | .choose _ _, h, hq => fun x => yg_bind' (h x) hq
  | .sys _ _, h, _ => h
  | .program k, h, hq => yg_bind' (s := k P) h hq
  | .mark _ _, h, hq => ⟨h.1, yg_bind' h.2 hq⟩
  | .halt _, h, _ => h
theorem yg_bind {Q : α → Prop} {R : β → Prop} {f : α → Sem β} {s : Sem α} (h : yg H S P Q s) (hf : ∀ a, Q a → yg H S P R (f a)) : yg H S P R (s >>= f) := yg_bind' h hf
theorem yg_pure {Q : α → Prop} {a : α} (h : Q a) : yg H S P Q (pure a) := h
theorem y0_of_yV {v : Value} (h : yV H S v) (_h1 : ∀ cs, v ≠ .agg cs) (_h2 : ∀ vs, v ≠ .tuple vs) : y0 H S v := h
theorem okHalt_noCell {w : World} (hw : yHeap H S w) {a : Addr} (ha : H a.block) (s : String) : okHalt (w.noCell a s) := by
  unfold World.noCell
  split
  · rename_i h; exact (hw.obj _ _ ha h).elim
  · rename_i h; exact (hw.obj _ _ ha h).elim
  · trivial
theorem yHeap.cell {w : World} (hw : yHeap H S w) {a : Addr} (ha : H a.block) {v : Value} (h : w.cell? a = some v) : y0 H S v := by
  unfold World.cell? at h
  split at h
  · rename_i c t f hc
    split at h
    · cases h
    · exact hw.obj _ _ ha hc v (Array.mem_of_getElem? h)
  · cases h
theorem yHeap.farLoad {w : World} (hw : yHeap H S w) {a : Addr} (ha : H a.block) (at_ : Bool) : w.farLoad P a at_ = .error (w.noCell a "load: no such cell") := by
  unfold World.farLoad
  split
  · rename_i h; exact (hw.obj _ _ ha h).elim
  · rfl
theorem yHeap.farStore {w : World} (hw : yHeap H S w) {a : Addr} (ha : H a.block) (v : Value) (at_ : Bool) : w.farStore P a v at_ = .error (w.noCell a "store: no such cell") := by
  unfold World.farStore
  split
  · rename_i h; exact (hw.obj _ _ ha h).elim
  · rfl
theorem modify_get {w : World} {b : Nat} {f : Obj → Obj} (k : Nat) : (w.heap.modify b f)[k]? = if b = k then (w.heap[k]?).map f else w.heap[k]? := by
  rw [Array.getElem?_modify]
theorem yStep.modify {w : World} (hw : yHeap H S w) {b : Nat} (hb : H b) {f : Obj → Obj} (hf : ∀ o, yO H S o → yO H S (f o)) : yStep H S w { w with heap := w.heap.modify b f } := by
  refine ⟨fun k hk => ?_, ⟨by simpa using hw.size, fun k o hk ho => ?_⟩, by simp, rfl, rfl, rfl, Nat.le_refl _⟩
  · show (w.heap.modify b f)[k]? = _
    rw [modify_get, if_neg (fun e : b = k => hk (e ▸ hb))]
  · rw [show ({ w with heap := w.heap.modify b f } : World).heap[k]? = (w.heap.modify b f)[k]? from rfl, modify_get] at ho
    split at ho
    · obtain ⟨o', ho', rfl⟩ := Option.map_eq_some_iff.1 ho
      exact hf _ (hw.obj _ _ hk ho')
    · exact hw.obj _ _ hk ho
theorem yStep.setCell {w : World} (hw : yHeap H S w) {a : Addr} (ha : H a.block) {v : Value} (hv : y0 H S v) : yStep H S w (w.setCell a v) := by
  refine yStep.modify hw ha fun o ho => ?_
  cases o <;> try exact ho
  rename_i c t f
  intro x hx
  split at hx
  · exact ho x hx
  · rcases Array.mem_or_eq_of_mem_setIfInBounds hx with h | rfl
    · exact ho x h
    · exact hv
theorem yStep.freeze {w : World} (hw : yHeap H S w) {a : Addr} (ha : H a.block) (n : Nat) : yStep H S w (w.freeze a n) := by
  unfold World.freeze
  split
  · exact .refl hw
  · refine yStep.modify hw ha fun o ho => ?_
    cases o <;> exact ho
theorem yStep.new {w : World} (hw : yHeap H S w) {o : Obj} (ho : yO H S o) : yStep H S w { w with heap := w.heap.push o } := by
  refine ⟨fun k hk => ?_, ⟨fun b hb => hw.size b (by simp at hb; omega), fun k o' hk ho' => ?_⟩, by simp, rfl, rfl, rfl, Nat.le_refl _⟩
  · have hk' : k < w.heap.size := Nat.lt_of_not_le fun h => hk (hw.size k h)
    exact Array.getElem?_push_lt (by omega) |>.trans (Array.getElem?_eq_getElem (by omega)).symm
  · rw [show ({ w with heap := w.heap.push o } : World).heap[k]? = (w.heap.push o)[k]? from rfl, Array.getElem?_push] at ho'
    split at ho'
    · cases ho'; exact ho
    · exact hw.obj _ _ hk ho'
theorem yStep.drew {w : World} (hw : yHeap H S w) : yStep H S w { w with drawn := w.drawn + 1 } := ⟨fun _ _ => rfl, ⟨hw.size, hw.obj⟩, Nat.le_refl _, rfl, rfl, rfl, Nat.le_succ _⟩

/-- What a run leaves. -/
def yEnd (H : Nat → Prop) (S : Nat → Prop) (Q : α → Prop) (w : World) (es : Array Event) (r : Result α × Array Event) : Prop :=
  (∃ u, r.2 = es ++ u ∧ ∀ e ∈ u, yEv H e) ∧ match r.1 with
    | .ok a w' => Q a ∧ yStep H S w w'
    | .halt h w' => okHalt h ∧ yStep H S w w'
theorem yEnd.from {Q : α → Prop} {w w1 : World} {es : Array Event} {u : Array Event} {r : Result α × Array Event} (h : yEnd H S Q w1 (es ++ u) r) (hu : ∀ e ∈ u, yEv H e) (hs : yStep H S w w1) : yEnd H S Q w es r := by
  obtain ⟨⟨v, hv, hv2⟩, h2⟩ := h
  refine ⟨⟨u ++ v, by rw [hv, Array.append_assoc], fun e he => ?_⟩, ?_⟩
  · rcases Array.mem_append.1 he with h | h
    · exact hu e h
    · exact hv2 e h
  · split at h2
    · exact ⟨h2.1, hs.trans h2.2⟩
    · exact ⟨h2.1, hs.trans h2.2⟩
theorem yEnd.from0 {Q : α → Prop} {w w1 : World} {es : Array Event} {r : Result α × Array Event} (h : yEnd H S Q w1 es r) (hs : yStep H S w w1) : yEnd H S Q w es r := by
  have : yEnd H S Q w1 (es ++ #[]) r := by simpa using h
  exact this.from (by simp) hs
theorem yEnd.push {Q : α → Prop} {w w1 : World} {es : Array Event} {e : Event} {r : Result α × Array Event} (h : yEnd H S Q w1 (es.push e) r) (he : yEv H e) (hs : yStep H S w w1) : yEnd H S Q w es r := by
  rw [Array.push_eq_append] at h
  exact h.from (by intro x hx; simp at hx; rw [hx]; exact he) hs
theorem yEnd.stop {Q : α → Prop} {w : World} (hw : yHeap H S w) {es : Array Event} {h : Halt} (hh : okHalt h) : yEnd H S Q w es (.halt h w, es) := ⟨⟨#[], by simp, by simp⟩, hh, .refl hw⟩
theorem yg_run {Q : α → Prop} : ∀ {s : Sem α}, yg H S P Q s → ∀ (w : World) (es : Array Event), yHeap H S w → yEnd H S Q w es (s.runT P w es)
  | .pure _, h, w, es, hw => ⟨⟨#[], by simp [Sem.runT], by simp⟩, h, .refl hw⟩
  | .load m a k, h, w, es, hw => by
    simp only [Sem.runT]
    split
    · rename_i v hv
      exact (yg_run (h.2 v (hw.cell h.1 hv)) w _ hw).push (.inl ⟨a, rfl, h.1⟩) (.refl hw)
    · rw [hw.farLoad h.1]
      exact .stop hw (okHalt_noCell hw h.1 _)
  | .store m a v k, h, w, es, hw => by
    by_cases h1 : ∃ cs, v = .agg cs
    · obtain ⟨cs, rfl⟩ := h1
      simp only [Sem.runT]
      exact .stop hw trivial
    · by_cases h2 : ∃ vs, v = .tuple vs
      · obtain ⟨cs, rfl⟩ := h2
        simp only [Sem.runT]
        exact .stop hw trivial
      · have hv := y0_of_yV h.2.1 (fun cs e => h1 ⟨cs, e⟩) (fun cs e => h2 ⟨cs, e⟩)
        have key : yEnd H S Q w es (match w.cell? a with
            | some _ => if w.frozen? a then (.halt (.unsupported (.unsafePointer "a write to bytes that a string shares")) w, es) else k.runT P (w.setCell a v) (es.push ⟨.cell a, true, m == .atomic⟩)
            | none => match w.farStore P a v (m == .atomic) with
              | .ok (w, touched) => k.runT P w (es ++ touched.toArray.map (⟨.cell ·, true, m == .atomic⟩))
              | .error h => (.halt h w, es)) := by
          split
          · split
            · exact .stop hw trivial
            · have hs := yStep.setCell hw h.1 hv
              exact (yg_run h.2.2 _ _ hs.heap).push (.inl ⟨a, rfl, h.1⟩) hs
          · rw [hw.farStore h.1]
            exact .stop hw (okHalt_noCell hw h.1 _)
        cases v <;> first | exact key | exact absurd ⟨_, rfl⟩ h1 | exact absurd ⟨_, rfl⟩ h2
  | .new o k, h, w, es, hw => by
    have hs := yStep.new hw h.1
    exact (yg_run (h.2 _ (hw.size _ (Nat.le_refl _))) _ _ hs.heap).from0 hs
  | .shape r k, h, w, es, hw => yg_run (h _) w es hw
  | .freeze a n k, h, w, es, hw => by
    have hs := yStep.freeze hw h.1 n
    exact (yg_run h.2 _ _ hs.heap).from0 hs
  | .frozen a k, h, w, es, hw => yg_run (h _) w es hw
  | .getObj r k, h, w, es, hw => by
    simp only [Sem.runT]
    split
    · exact .stop hw trivial
    · rename_i o hn ho
      exact (yg_run (h.2 o (hw.obj _ _ h.1 ho)) w _ hw).push (.inr (.inl ⟨r, rfl, h.1⟩)) (.refl hw)
    · exact .stop hw trivial
  | .setObj _ _ _, h, _, _, _ => h.elim
  | .choose q k, h, w, es, hw => by
    simp only [Sem.runT]
    split
    · exact yg_run (h _) w es hw
    · have hs := yStep.drew hw
      exact (yg_run (h _) _ _ hs.heap).from0 hs
  | .sys _ _, h, _, _, _ => h.elim
  | .program k, h, w, es, hw => yg_run (s := k P) h w es hw
  | .mark m k, h, w, es, hw => (yg_run h.2 w _ hw).push (.inr (.inr ⟨m, rfl, h.1⟩)) (.refl hw)
  | .halt h', h, w, es, hw => .stop hw h
end
end Go.Proofs.Ytmoajpkgdimdaaa
end
