/- Plotter programs: words, steps, loops (the reference). -/
import Derived.Test.YthojdoiffkdikaaDoorKit
import Derived.Test.YthojdoiffkdikaaDoorPlotT
namespace Go.Proofs.YthojdoiffkdikaaDoor
open Go.RowKit Go.PlotT

theorem isSt_eq (l : Wd) : isSt l = (l == [117] || l == [100] || l == [110] || l == [101] || l == [115] || l == [119] || l == [116]) := by
  rcases l with _ | ⟨a, _ | ⟨b, l⟩⟩
  · rfl
  · simp [isSt]
  · simp [isSt]
theorem loopN_pair (a b : UInt8) : loopN [a, b] = if a.toNat = 114 ∧ 49 ≤ b.toNat ∧ b.toNat ≤ 57 then b.toNat - 48 else 0 := by
  have h1 : a = 114 ↔ a.toNat = 114 := ⟨fun e => by rw [e]; rfl, fun e => UInt8.toNat_inj.1 e⟩
  simp only [loopN, h1, UInt8.le_iff_toNat_le]
  rfl
theorem pair0 (a b : UInt8) (h : 0 < (⟨⟨[a, b]⟩⟩ : ByteArray).size) : (⟨⟨[a, b]⟩⟩ : ByteArray)[0] = a := rfl
theorem pair1 (a b : UInt8) (h : 1 < (⟨⟨[a, b]⟩⟩ : ByteArray).size) : (⟨⟨[a, b]⟩⟩ : ByteArray)[1] = b := rfl
theorem l12Step_any (s : ByteArray) (w : World) :
    Calls Tryd.prog 20 #[.string s] w fun e w' => e = .returned (.bool (isSt s.toList)) ∧ w = w' := by
  have hE := isSt_eq s.toList
  obtain ⟨v, hv⟩ : ∃ v, isSt s.toList = v := ⟨_, rfl⟩
  rw [hv] at hE ⊢
  have HE := Lib.hid hE
  clear hE hv
  go_enter Tryd.func20, Tryd.ntmps20
  go_wp2_with fail
  all_goals
    first
    | (exfalso; simp_all; done)
    | (go_ret
       have hE := HE.out
       simp_all; done)
theorem l12Loop_any (s : ByteArray) (w : World) :
    Calls Tryd.prog 88 #[.string s] w fun e w' => e = .returned (.int .i64 (loopN s.data.toList)) ∧ w = w' := by
  obtain ⟨⟨l⟩⟩ := s
  rcases l with _ | ⟨a, _ | ⟨b, _ | ⟨c, l⟩⟩⟩
  case cons.cons.nil =>
    go_enter Tryd.func88, Tryd.ntmps88
    go_wp2_with fail
    all_goals
      go_ret
      refine ⟨congrArg (fun n => Ending.returned (Value.int IntKind.i64 n)) ?_, rfl⟩
      rw [loopN_pair]
      simp only [pair0, pair1] at *
      split <;> first | omega | (simp; omega) | (simp; done)
  all_goals
    go_enter Tryd.func88, Tryd.ntmps88
    go_wp2_with fail
    all_goals
      first
      | (exfalso; simp_all; omega)
      | (go_ret
         exact ⟨rfl, rfl⟩)
end Go.Proofs.YthojdoiffkdikaaDoor
