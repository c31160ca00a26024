/- Designs as texts: the program's DesignText. The wrap of a row that lists variables: what they hold, and the world's shape, are handed to the contract. The table of powers, out of what a row lists. -/
import Derived.Test.YthojdoiffkdikaaDoorDesK
import Derived.Test.YthojdoiffkdikaaDoorTie
import Derived.Test.YthojdoiffkdikaaDoorCards
import Derived.Test.YthojdoiffkdikaaDoorKit
import Derived.ProofKit
import Derived.OpenShut
import Derived.LaidMore
import Derived.Lay
import Derived.SevenTiedAt
import Derived.Stop.Joined
import Derived.HandedShaped
import Derived.ChangeMaps5
import Derived.Test.YthojdoiffkdikaaDoorDesJ
import Derived.LaidSub
section -- a part
namespace Go.Proofs.YthojdoiffkdikaaDoor
open Go.RowKit

set_option maxRecDepth 100000 in
set_option maxHeartbeats 4000000 in
theorem designText_any (a : Option Addr) (cap : Nat) (ds : List W9) (w : World) (h : HasW w a ds) (hn : ds.length ≤ 1048576) (ht : Tab10 w) :
    Calls Tryd.prog 16 #[.slice a ds.length cap] w (TextPost w (textR ds)) := by
  have H := Lib.hid (designTidy_any a cap ds w h hn)
  have HTB := Lib.hid ht
  clear h ht
  cases ht : tidyR ds with
  | none =>
    rw [ht] at H
    have HR := Lib.hid (show textR ds = none by rw [textR, ht]; rfl)
    clear ht
    go_enter Tryd.func16, Tryd.ntmps16
    go_wp2_with (go_at_call 39; go_must (refine H.out.mono ?_; rintro e w1 ⟨v, rfl, ho, hb⟩; have HB := Lib.hid hb; clear ho hb))
    go_returns
    exact ⟨by rw [HR.out]; rfl, HB.out⟩
  | some t =>
    rw [ht] at H
    have HR := Lib.hid (show textR ds = some (dt t) by rw [textR, ht]; rfl)
    have HT := Lib.hid (dvOk_mem (tidyR_ok ht))
    clear ht
    go_enter Tryd.func16, Tryd.ntmps16
    go_wp2_with (first
      | (go_at_call 39; go_must (refine H.out.mono ?_; rintro e w1 ⟨v, rfl, ho, hb⟩; obtain ⟨a1, c1, rfl, -, hw1⟩ := OwnsL.hasW ho; have HW := Lib.hid hw1; have HB := Lib.hid hb; clear ho hb hw1))
      | (go_at_call 40; refine (textOf_any a1 c1 t _ HW.out (HTB.out.below HB.out) HT.out.1 HT.out.2).mono ?_; rintro e w' ⟨rfl, hb⟩; obtain ⟨os, d, rfl⟩ := more_of_below hb; clear hb))
    go_returns
    exact ⟨by rw [HR.out]; rfl, below_more HB.out HB.out.size _ _⟩
end Go.Proofs.YthojdoiffkdikaaDoor
end
section -- a part
namespace Go.Proofs.YthojdoiffkdikaaDoor
open Go.ChangeShapes Go.WideShapes Go.ChangeAt Go.RowKit

theorem ownD : ownKnob Tryd.prog.godebug = none := by kernel_rfl
theorem laidOutD : laidOutB Tryd.prog = true := by kernel_rfl
theorem returnsInHanded_door {H : Type} {enc : TypeId × Value → H} {a : Assume} {C : Checked} {os : Os} {f : FuncId} {fn : Func} {s : ChangeSpec} {conds : List PathCond} {apart fresh handsOn again : Bool} {X : World → Array Value → Prop}
    (hX : ∀ (w w' : World) (args : Array Value), w.heap = w'.heap → X w args → X w' args)
    (own : ownKnob C.prog.godebug = none) (started : os.Started) (noInit : C.prog.inits.idxOf? f = none) (hfn : C.prog.funcs[f]? = some fn)
    (witness : ∃ (w : World) (tape : Tape) (i : Input), w.os = os ∧ (w.forCall tape i).Shaped C.prog ∧ i.vars = [] ∧ Input.okWide C.prog (w.forCall tape i) .any w.heap.size f i ∧
      ((s.pre enc C.prog fn conds apart (w.forCall tape i).memory i.args ∧ X (w.forCall tape i).memory i.args) ∧ sizedMet enc C.prog fn (OpenSpec.ofChange s) apart (w.forCall tape i).memory i.args) ∧ a.holds C.prog (lone (Frame.enter C.prog f i.args .normal) [] (w.forCall tape i)))
    (contract : ∀ (W : World) (base : Nat) (args : Array Value) (ds gs : List (DataW H)) (before : List MemPlace),
      (∀ (j : Nat) t v, fn.params[j]? = some t → args[j]? = some v → Value.okWide C.prog W .any base t v) →
      DataW.Whole enc C.prog fn.params.toList s.vars apart W args.toList ds gs before →
      X W args → W.ShapedOpen C.prog →
      Calls C.prog f args W fun e W' => ∃ v, e = .returned v ∧ s.post enc C.prog fn apart fresh handsOn again W args v W') :
    ReturnsInHanded a C os f .any (fun w args => (s.pre enc C.prog fn conds apart w args ∧ X w args) ∧ sizedMet enc C.prog fn (OpenSpec.ofChange s) apart w args) (s.post enc C.prog fn apart fresh handsOn again) := by
  refine returnsInHanded_of_calls own started noInit witness ?_
  intro w tape i _ hsh _ hok hpre hholds
  obtain ⟨_, _, _, fn', hfn', _, _, _, _, hval⟩ := hok
  have e : fn' = fn := Option.some.inj (hfn'.symm.trans hfn)
  subst e
  obtain ⟨⟨⟨ds, gs, before, hw, hc⟩, hx⟩, hz⟩ := hpre
  have hw' := DataW.Whole.of_heap (w' := w.forCall tape i) (by rfl) hw
  refine (contract (w.forCall tape i) w.heap.size i.args ds gs before hval hw' (hX _ _ _ (by rfl) hx) hsh).mono fun e W' ⟨v, he, hp⟩ => ?_
  subst he
  exact ChangeSpec.post_blind hp
end Go.Proofs.YthojdoiffkdikaaDoor
end
section -- a part
namespace Go.Proofs.YthojdoiffkdikaaDoor
open Go.RowKit

theorem tab_type : ((Tryd.prog.globalNamed "internal/strconv.uint64pow10").bind fun g => (Tryd.prog.globals[g]?).map (·.type)) = some 169 := by kernel_rfl
theorem tab10_of {l : List (String × DataW Unit)} {W : World} (h : laidMetH Tryd.prog l W) (hp : (l.all fun x => x.2.handleName?.isNone) = true)
    (hf : (l.filter fun x => x.1 == "internal/strconv.uint64pow10") = [("internal/strconv.uint64pow10", Lib.tabData .u64 Lib.pow10Tab)]) : Tab10 W := by
  have h1 : laidMet Tryd.prog l W := by rw [← MakeChecks.laidMetH_plain _ _ _ hp]; exact h
  have h2 := h1.filter (fun x => x.1 == "internal/strconv.uint64pow10")
  rw [hf] at h2
  obtain ⟨g, hg⟩ := tab_global
  have ht := tab_type
  rw [hg] at ht
  exact Lib.tabIs_of_head hg ht Tryd.underlying169 Tryd.underlying116 (by kernel_rfl) (by kernel_rfl) h2
end Go.Proofs.YthojdoiffkdikaaDoor
end
