/- The wrap of a row that lists variables: what they hold, and the world's shape, are handed to the contract. The table of powers, out of what a row lists. What the readers lean on, out of what a row lists and of the world's shape. -/
import Derived.Test.YthojdoiffkdikaaGreatDoorTie
import Derived.Test.YthojdoiffkdikaaGreatDoorCards
import Derived.Test.YthojdoiffkdikaaGreatDoorKit
import Derived.ProofKit
import Derived.OpenShut
import Derived.LaidMore
import Derived.Lay
import Derived.SevenTiedAt
import Derived.Stop.Joined
import Derived.HandedShaped
import Derived.ChangeMaps5
import Derived.Test.YthojdoiffkdikaaGreatDoorDesJ
import Derived.LaidSub
import Derived.Test.YthojdoiffkdikaaGreatDoorRdC
import Derived.Stop.LaidErr
section -- a part
namespace Go.Proofs.YthojdoiffkdikaaGreatDoor
open Go.ChangeShapes Go.WideShapes Go.ChangeAt Go.RowKit

theorem ownD : ownKnob Tryz.prog.godebug = none := by kernel_rfl
theorem laidOutD : laidOutB Tryz.prog = true := by kernel_rfl
theorem returnsInHanded_door {H : Type} {enc : TypeId × Value → H} {a : Assume} {C : Checked} {os : Os} {f : FuncId} {fn : Func} {s : ChangeSpec} {conds : List PathCond} {apart fresh handsOn again : Bool} {X : World → Array Value → Prop}
    (hX : ∀ (w w' : World) (args : Array Value), w.heap = w'.heap → X w args → X w' args)
    (own : ownKnob C.prog.godebug = none) (started : os.Started) (noInit : C.prog.inits.idxOf? f = none) (hfn : C.prog.funcs[f]? = some fn)
    (witness : ∃ (w : World) (tape : Tape) (i : Input), w.os = os ∧ (w.forCall tape i).Shaped C.prog ∧ i.vars = [] ∧ Input.okWide C.prog (w.forCall tape i) .any w.heap.size f i ∧
      ((s.pre enc C.prog fn conds apart (w.forCall tape i).memory i.args ∧ X (w.forCall tape i).memory i.args) ∧ sizedMet enc C.prog fn (OpenSpec.ofChange s) apart (w.forCall tape i).memory i.args) ∧ a.holds C.prog (lone (Frame.enter C.prog f i.args .normal) [] (w.forCall tape i)))
    (contract : ∀ (W : World) (base : Nat) (args : Array Value) (ds gs : List (DataW H)) (before : List MemPlace),
      (∀ (j : Nat) t v, fn.params[j]? = some t → args[j]? = some v → Value.okWide C.prog W .any base t v) →
      DataW.Whole enc C.prog fn.params.toList s.vars apart W args.toList ds gs before →
      X W args → W.ShapedOpen C.prog →
      Calls C.prog f args W fun e W' => ∃ v, e = .returned v ∧ s.post enc C.prog fn apart fresh handsOn again W args v W') :
    ReturnsInHanded a C os f .any (fun w args => (s.pre enc C.prog fn conds apart w args ∧ X w args) ∧ sizedMet enc C.prog fn (OpenSpec.ofChange s) apart w args) (s.post enc C.prog fn apart fresh handsOn again) := by
  refine returnsInHanded_of_calls own started noInit witness ?_
  intro w tape i _ hsh _ hok hpre hholds
  obtain ⟨_, _, _, fn', hfn', _, _, _, _, hval⟩ := hok
  have e : fn' = fn := Option.some.inj (hfn'.symm.trans hfn)
  subst e
  obtain ⟨⟨⟨ds, gs, before, hw, hc⟩, hx⟩, hz⟩ := hpre
  have hw' := DataW.Whole.of_heap (w' := w.forCall tape i) (by rfl) hw
  refine (contract (w.forCall tape i) w.heap.size i.args ds gs before hval hw' (hX _ _ _ (by rfl) hx) hsh).mono fun e W' ⟨v, he, hp⟩ => ?_
  subst he
  exact ChangeSpec.post_blind hp
end Go.Proofs.YthojdoiffkdikaaGreatDoor
end
section -- a part
namespace Go.Proofs.YthojdoiffkdikaaGreatDoor
open Go.RowKit

theorem tab_type : ((Tryz.prog.globalNamed "internal/strconv.uint64pow10").bind fun g => (Tryz.prog.globals[g]?).map (·.type)) = some 245 := by kernel_rfl
theorem tab10_of {l : List (String × DataW Unit)} {W : World} (h : laidMetH Tryz.prog l W) (hp : (l.all fun x => x.2.handleName?.isNone) = true)
    (hf : (l.filter fun x => x.1 == "internal/strconv.uint64pow10") = [("internal/strconv.uint64pow10", Lib.tabData .u64 Lib.pow10Tab)]) : Tab10 W := by
  have h1 : laidMet Tryz.prog l W := by rw [← MakeChecks.laidMetH_plain _ _ _ hp]; exact h
  have h2 := h1.filter (fun x => x.1 == "internal/strconv.uint64pow10")
  rw [hf] at h2
  obtain ⟨g, hg⟩ := tab_global
  have ht := tab_type
  rw [hg] at ht
  exact Lib.tabIs_of_head hg ht Tryz.underlying245 Tryz.underlying205 (by kernel_rfl) (by kernel_rfl) h2
end Go.Proofs.YthojdoiffkdikaaGreatDoor
end
section -- a part
namespace Go.Proofs.YthojdoiffkdikaaGreatDoor
open Go.RowKit

theorem star_err : "*" ++ "errors.errorString" = "*errors.errorString" := by decide
theorem row_err (u : TypeId) (h : Tryz.prog.typeName? 3 u = some "*errors.errorString") : u = 241 :=
  typeName_ptr_named (nm := "errors.errorString") (by rw [star_err]; kernel_rfl) (by kernel_rfl) (by decide) u (by rw [star_err]; exact h)
theorem errIs_of {l : List (String × DataW Unit)} {W : World} {n : String} {text : List UInt8} (h : laidMetH Tryz.prog l W) (hp : (l.all fun x => x.2.handleName?.isNone) = true)
    (hf : (l.filter fun x => x.1 == n) = [(n, .iface "*errors.errorString" (.ptr (.agg [.lit (.string text)])))])
    (hg : ((Tryz.prog.globalNamed n).bind fun g => (Tryz.prog.globals[g]?).map (·.type)) = some 109) : ErrIs n W := by
  have h1 : laidMet Tryz.prog l W := by rw [← MakeChecks.laidMetH_plain _ _ _ hp]; exact h
  have h2 := h1.filter (fun x => x.1 == n)
  rw [hf] at h2
  cases hq : Tryz.prog.globalNamed n with
  | none => rw [hq] at hg; cases hg
  | some g =>
    rw [hq] at hg
    obtain ⟨a0, s0, hv0, -⟩ := laid_sentinel h2 hq hg Tryz.underlying109 row_err Tryz.underlying241 Tryz.underlying243 rfl rfl Tryz.underlying9 (by kernel_rfl) (by kernel_rfl)
    exact ⟨_, _, hv0⟩
/-- All of it. -/
theorem env_of {l : List (String × DataW Unit)} {W : World} (h : laidMetH Tryz.prog l W) (hsh : W.ShapedOpen Tryz.prog) (hp : (l.all fun x => x.2.handleName?.isNone) = true)
    (h1 : (l.filter fun x => x.1 == "internal/strconv.uint64pow10") = [("internal/strconv.uint64pow10", Lib.tabData .u64 Lib.pow10Tab)])
    (h2 : (l.filter fun x => x.1 == "strconv.ErrSyntax") = [("strconv.ErrSyntax", .iface "*errors.errorString" (.ptr (.agg [.lit (.string [105, 110, 118, 97, 108, 105, 100, 32, 115, 121, 110, 116, 97, 120])])))])
    (h3 : (l.filter fun x => x.1 == "strconv.ErrRange") = [("strconv.ErrRange", .iface "*errors.errorString" (.ptr (.agg [.lit (.string [118, 97, 108, 117, 101, 32, 111, 117, 116, 32, 111, 102, 32, 114, 97, 110, 103, 101])])))]) : Env W :=
  ⟨Tryz.laysM146.s1_3 W hsh, tab10_of h hp h1, errIs_of h hp h2 (by kernel_rfl), errIs_of h hp h3 (by kernel_rfl)⟩
end Go.Proofs.YthojdoiffkdikaaGreatDoor
end
