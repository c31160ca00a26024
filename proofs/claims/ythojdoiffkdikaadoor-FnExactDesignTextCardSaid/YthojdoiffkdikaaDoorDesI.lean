/- Designs as texts: the reference's DesignText. -/
import Derived.Test.YthojdoiffkdikaaDoorDesH
namespace Go.Proofs.YthojdoiffkdikaaDoor
open Go.RowKit

def textR (ds : List W9) : Option Tx := (tidyR ds).map dt
def TextPost (w : World) (r : Option Tx) (e : Ending) (w' : World) : Prop := e = .returned (.tuple #[.string ⟨(r.getD []).toArray⟩, .bool r.isSome]) ∧ Below w.heap.size w w'
theorem tidyR_ok {ds t : List W9} (h : tidyR ds = some t) : dvOk t = true := by
  rw [tidyR] at h
  split at h
  · rw [tdR] at h
    cases hty : tyS [] ds with
    | none => rw [hty] at h; cases h
    | some l =>
      rw [hty] at h
      simp only [Option.bind_some] at h
      split at h
      · next hd => rw [← Option.some.inj h]; exact hd
      · cases h
  · cases h
set_option maxRecDepth 100000 in
set_option maxHeartbeats 4000000 in
theorem specDesignText_any (a : Option Addr) (cap : Nat) (ds : List W9) (w : World) (h : HasW w a ds) (hn : ds.length ≤ 1048576) :
    Calls Tryd.prog 14 #[.slice a ds.length cap] w (TextPost w (textR ds)) := by
  have H := Lib.hid (specDesignTidy_any a cap ds w h hn)
  clear h
  cases ht : tidyR ds with
  | none =>
    rw [ht] at H
    have HR := Lib.hid (show textR ds = none by rw [textR, ht]; rfl)
    clear ht
    go_enter Tryd.func14, Tryd.ntmps14
    go_wp2_with (go_at_call 36; go_must (refine H.out.mono ?_; rintro e w1 ⟨g, c, rfl, ho, hb⟩; have HO := Lib.hid ho; have HB := Lib.hid hb; clear ho hb))
    go_returns
    exact ⟨by rw [HR.out]; rfl, HB.out⟩
  | some t =>
    rw [ht] at H
    have HR := Lib.hid (show textR ds = some (dt t) by rw [textR, ht]; rfl)
    have HT := Lib.hid (dvOk_mem (tidyR_ok ht))
    clear ht
    go_enter Tryd.func14, Tryd.ntmps14
    go_wp2_with (first
      | (go_at_call 36; go_must (refine H.out.mono ?_; rintro e w1 ⟨g, c, rfl, ho, hb⟩; have HO := Lib.hid ho; have HB := Lib.hid hb; clear ho hb))
      | (go_at_call 37; refine (l13Text_any _ _ t _ HO.out.has HT.out.1 HT.out.2).mono ?_; rintro e w' ⟨rfl, hb⟩; obtain ⟨os, d, rfl⟩ := more_of_below hb; clear hb))
    go_returns
    exact ⟨by rw [HR.out]; rfl, below_more HB.out HB.out.size _ _⟩
end Go.Proofs.YthojdoiffkdikaaDoor
