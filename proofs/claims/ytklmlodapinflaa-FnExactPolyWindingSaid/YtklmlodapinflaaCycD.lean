/- Contracts on exact points: the program's reduction of a list of coefficients. -/
import Derived.Test.YtklmlodapinflaaCycA
import Derived.Laws.CopyOwn
namespace Go.Proofs.Ytklmlodapinflaa
open Go.RowKit

theorem setRow_alloc_at (W : World) (c c' : Array Value) (t : TypeId) : (W.alloc (.cells c t)).setRow W.heap.size c' = W.alloc (.cells c' t) := by
  unfold World.setRow World.alloc
  congr 1
  apply Array.ext_getElem?
  intro k
  simp only [Array.getElem?_modify, Array.getElem?_push]
  by_cases hk : W.heap.size = k
  · subst hk; simp
  · simp only [hk, if_false]
    rw [if_neg (fun h => hk h.symm), if_neg (fun h => hk h.symm)]

/-- The first eight numbers of a row copied into a new array of eight. -/
theorem copy8 (Y : World) (b n : Nat) (q : List Int) (hn : 8 ≤ n) (hsrc : ∀ j, j < 8 → (Y.alloc (.cells (row C8.zero) 25)).cell? ⟨b, j, none⟩ = some (.int .i64 (gt q j))) :
    (Builtin.copy_ #[116, 116] 3 #[.slice (some ⟨Y.heap.size, 0, none⟩) 8 8, .slice (some ⟨b, 0, none⟩) n n]).run Try.prog (Y.alloc (.cells (row C8.zero) 25)) = .ok (.int .i64 8) (Y.alloc (.cells (row (C8.of q)) 25)) := by
  have hrow := run_copy_row (P := Try.prog) (Y.alloc (.cells (row C8.zero) 25)) 116 116 3 3 Y.heap.size 0 8 8 ⟨b, 0, none⟩ n n (row C8.zero) 25 (row (C8.of q)).toList Try.underlying116 (by kernel_rfl) (heap_alloc_new _ _) (by show 8 = min n 8; omega)
    (fun j v hv => by
      have hj : j < 8 := by
        by_cases hj : j < 8
        · exact hj
        · rw [List.getElem?_eq_none (by simpa [row] using hj)] at hv; cases hv
      have hr : (row (C8.of q)).toList[j]? = some (.int .i64 (gt q j)) := by
        have : j = 0 ∨ j = 1 ∨ j = 2 ∨ j = 3 ∨ j = 4 ∨ j = 5 ∨ j = 6 ∨ j = 7 := by omega
        rcases this with rfl | rfl | rfl | rfl | rfl | rfl | rfl | rfl <;> rfl
      rw [hr] at hv
      cases hv
      have e : (⟨b, 0, none⟩ : Addr).add j = ⟨b, j, none⟩ := by by_cases h0 : j = 0 <;> simp [Addr.add, h0]
      rw [e]; exact hsrc j hj) (by show 0 + 8 ≤ 8; omega) (fun v hv => by simp [row] at hv; rcases hv with rfl | rfl | rfl | rfl | rfl | rfl | rfl | rfl <;> rfl)
  rw [hrow]
  refine congrArg (Result.ok (Value.int .i64 8)) ?_
  have e : ((row C8.zero).toList.take 0 ++ (row (C8.of q)).toList ++ (row C8.zero).toList.drop (0 + (row (C8.of q)).toList.length)).toArray = row (C8.of q) := by simp [row]
  rw [e]; exact setRow_alloc_at _ _ _ _

theorem redL_one (j : Nat) (l : List Int) : redL (j + 1) l = redL j (stepR j l) := rfl

set_option maxRecDepth 100000 in
set_option maxHeartbeats 1000000 in
theorem reduced_any (w0 : World) (l : List Int) (os : Array Obj) (d n : Nat) (hn : l.length = n) (h1 : 8 ≤ n) (h2 : n ≤ 100) :
    Calls Try.prog 107 #[.slice (some ⟨w0.heap.size, 0, none⟩) n n] (more (w0.alloc (.cells (vals l) 3)) os d) fun e w' => e = .returned (cv (C8.red l)) ∧ Below w0.heap.size w0 w' := by
  have HL := Lib.hid hn
  clear hn
  go_enter Try.func107, Try.ntmps107
  go_wp2
  go_loopw [3] (fun s wr => ∃ (j : Nat) (q : List Int), j + 8 ≤ n ∧ s = .int .i64 ((j : Int) + 7) ∧ Hid (redL j q = redL (n - 8) l) ∧ Hid (q.length = n) ∧ ∃ os' d', wr = more ((more (w0.alloc (.cells (vals q) 3)) os d).alloc (.cells (row C8.zero) 25)) os' d') (fun s _ => (intOf s).toNat)
  case atStart => exact ⟨n - 8, l, by omega, by congr 1; omega, rfl, HL.out, _, _, more_self _⟩
  case round =>
    obtain ⟨j, q, hj, rfl, hq, hqn, os', d', rfl⟩ := hrel
    match j, hj, hq with
    | 0, hj, hq =>
      have hlen := hqn.out
      have hcp := copy8 (more ((more (w0.alloc (.cells (vals q) 3)) os d).alloc (.cells (row C8.zero) 25)) os' d') w0.heap.size n q h1 (fun j hj => by
        have := vals_gt q j (by omega)
        simp [go_sem, this])
      simp only [size_more, World.size_alloc] at hcp
      have K : Hid (C8.of q = C8.red l) := by
        have h := hq.out
        show C8.of q = C8.of (redL (l.length - 8) l)
        rw [HL.out, ← h]; rfl
      clear hlen
      go_wp2
      go_returns
      exact ⟨by rw [K.out], by repeat' (first | (with_reducible exact Below.refl _ _) | (with_reducible assumption) | (with_reducible refine Below.alloc ?_ ?_ _) | (with_reducible refine below_more ?_ ?_ _ _) | (with_reducible refine below_rd ?_ ?_ _ _) | (with_reducible refine Below.drew ?_) | (with_reducible refine Below.setCell ?_ ?_ _) | go_size)⟩
    | i + 1, hj, hq =>
      rw [show (((i + 1 : Nat) : Int) + 7) = (i : Int) + 8 by omega]
      have hlen := hqn.out
      have g1 := vals_gt q (i + 4) (by omega)
      have g2 := vals_gt q (i + 8) (by omega)
      have g3 := vals_gt (q.set (i + 4) (wrap64 (gt q (i + 4) + gt q (i + 8)))) i (by rw [List.length_set]; omega)
      have g4 := vals_gt (q.set (i + 4) (wrap64 (gt q (i + 4) + gt q (i + 8)))) (i + 8) (by rw [List.length_set]; omega)
      have g5 := vals_gt ((q.set (i + 4) (wrap64 (gt q (i + 4) + gt q (i + 8)))).set i (wrap64 (gt (q.set (i + 4) (wrap64 (gt q (i + 4) + gt q (i + 8)))) i - gt (q.set (i + 4) (wrap64 (gt q (i + 4) + gt q (i + 8)))) (i + 8)))) (i + 8) (by rw [List.length_set, List.length_set]; omega)
      clear hlen
      go_wp2
      go_region
      go_wp2
      go_region
      go_wp2
      go_roundw
      case rel => exact ⟨i, stepR i q, by omega, by go_num, hq, (stepR_len i q).trans hqn.out, _, _, rfl⟩
      case measure => simp [intOf]; omega

theorem reduced_at (w0 : World) (g : Nat) (hg : g = w0.heap.size) (l : List Int) (os : Array Obj) (d n : Nat) (hn : l.length = n) (h1 : 8 ≤ n) (h2 : n ≤ 100) (x : C8) (hx : C8.red l = x) :
    Calls Try.prog 107 #[.slice (some ⟨g, 0, none⟩) n n] (more (w0.alloc (.cells (vals l) 3)) os d) fun e w' => e = .returned (cv x) ∧ Below w0.heap.size w0 w' := by
  subst hg hx; exact reduced_any w0 l os d n hn h1 h2
theorem reduced_new (w0 : World) (g : Nat) (hg : g = w0.heap.size) (l : List Int) (n : Nat) (hn : l.length = n) (h1 : 8 ≤ n) (h2 : n ≤ 100) (x : C8) (hx : C8.red l = x) :
    Calls Try.prog 107 #[.slice (some ⟨g, 0, none⟩) n n] (w0.alloc (.cells (vals l) 3)) fun e w' => e = .returned (cv x) ∧ Below w0.heap.size w0 w' := by
  subst hg hx
  have := reduced_any w0 l #[] (w0.alloc (.cells (vals l) 3)).drawn n hn h1 h2
  rw [← more_self] at this
  exact this
end Go.Proofs.Ytklmlodapinflaa
