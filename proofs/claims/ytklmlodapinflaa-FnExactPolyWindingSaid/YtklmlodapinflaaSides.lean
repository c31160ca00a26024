/- The sides of a polygon: the closure of the iterator, whatever the body of the loop. -/
import Derived.Test.YtklmlodapinflaaFix
import Derived.Test.YtklmlodapinflaaRowB
namespace Go.Proofs.Ytklmlodapinflaa
open Go.RowKit Go.Shelf
attribute [local go_sem] Oper.semAt_some

theorem sides_any (a : Option Addr) (len cap : Nat) (w : World) :
    Calls Try.prog 81 #[.slice a len cap] w fun e w' => e = .returned (.func (.func 116) #[] #[.pointer (some ⟨w.heap.size, 0, none⟩)]) ∧ w' = w.alloc (.cells #[.slice a len cap] 49) := by
  go_enter Try.func81, Try.ntmps81
  go_wp2
  go_ret
  exact ⟨rfl, rfl⟩

/-- The side from the corner k on. -/
def sideOf (xs : List C8) (k : Nat) : C8 × C8 := (xs.getD k C8.zero, xs.getD ((k + 1) % xs.length) C8.zero)
def sidesUpto (xs : List C8) (k : Nat) : List (C8 × C8) := (List.range k).map (sideOf xs)
theorem sidesUpto_succ (xs : List C8) (k : Nat) : sidesUpto xs (k + 1) = sidesUpto xs k ++ [sideOf xs k] := by simp [sidesUpto, List.range_succ]
theorem sidesUpto_length (xs : List C8) (k : Nat) : (sidesUpto xs k).length = k := by simp [sidesUpto]

/-- The cells of a side. -/
def row2 (x y : C8) : Array Value := #[.int .i64 x.c0, .int .i64 x.c1, .int .i64 x.c2, .int .i64 x.c3, .int .i64 x.c4, .int .i64 x.c5, .int .i64 x.c6, .int .i64 x.c7, .int .i64 y.c0, .int .i64 y.c1, .int .i64 y.c2, .int .i64 y.c3, .int .i64 y.c4, .int .i64 y.c5, .int .i64 y.c6, .int .i64 y.c7]
@[go_sem] theorem row2_fold (x y : C8) : (#[.int .i64 x.c0, .int .i64 x.c1, .int .i64 x.c2, .int .i64 x.c3, .int .i64 x.c4, .int .i64 x.c5, .int .i64 x.c6, .int .i64 x.c7, .int .i64 y.c0, .int .i64 y.c1, .int .i64 y.c2, .int .i64 y.c3, .int .i64 y.c4, .int .i64 y.c5, .int .i64 y.c6, .int .i64 y.c7] : Array Value) = row2 x y := rfl
@[go_sem] theorem row2_size (x y : C8) : (row2 x y).size = 16 := rfl
@[go_sem] theorem row2_list (x y : C8) : (row2 x y).toList = [.int .i64 x.c0, .int .i64 x.c1, .int .i64 x.c2, .int .i64 x.c3, .int .i64 x.c4, .int .i64 x.c5, .int .i64 x.c6, .int .i64 x.c7, .int .i64 y.c0, .int .i64 y.c1, .int .i64 y.c2, .int .i64 y.c3, .int .i64 y.c4, .int .i64 y.c5, .int .i64 y.c6, .int .i64 y.c7] := rfl
@[go_sem] theorem zero2_fold : (#[.int .i64 0, .int .i64 0, .int .i64 0, .int .i64 0, .int .i64 0, .int .i64 0, .int .i64 0, .int .i64 0, .int .i64 0, .int .i64 0, .int .i64 0, .int .i64 0, .int .i64 0, .int .i64 0, .int .i64 0, .int .i64 0] : Array Value) = row2 C8.zero C8.zero := rfl
@[go_sem] theorem row2_0 (x y : C8) : (row2 x y)[0]? = some (.int .i64 x.c0) := rfl
@[go_sem] theorem row2_1 (x y : C8) : (row2 x y)[1]? = some (.int .i64 x.c1) := rfl
@[go_sem] theorem row2_2 (x y : C8) : (row2 x y)[2]? = some (.int .i64 x.c2) := rfl
@[go_sem] theorem row2_3 (x y : C8) : (row2 x y)[3]? = some (.int .i64 x.c3) := rfl
@[go_sem] theorem row2_4 (x y : C8) : (row2 x y)[4]? = some (.int .i64 x.c4) := rfl
@[go_sem] theorem row2_5 (x y : C8) : (row2 x y)[5]? = some (.int .i64 x.c5) := rfl
@[go_sem] theorem row2_6 (x y : C8) : (row2 x y)[6]? = some (.int .i64 x.c6) := rfl
@[go_sem] theorem row2_7 (x y : C8) : (row2 x y)[7]? = some (.int .i64 x.c7) := rfl
@[go_sem] theorem row2_8 (x y : C8) : (row2 x y)[8]? = some (.int .i64 y.c0) := rfl
@[go_sem] theorem row2_9 (x y : C8) : (row2 x y)[9]? = some (.int .i64 y.c1) := rfl
@[go_sem] theorem row2_10 (x y : C8) : (row2 x y)[10]? = some (.int .i64 y.c2) := rfl
@[go_sem] theorem row2_11 (x y : C8) : (row2 x y)[11]? = some (.int .i64 y.c3) := rfl
@[go_sem] theorem row2_12 (x y : C8) : (row2 x y)[12]? = some (.int .i64 y.c4) := rfl
@[go_sem] theorem row2_13 (x y : C8) : (row2 x y)[13]? = some (.int .i64 y.c5) := rfl
@[go_sem] theorem row2_14 (x y : C8) : (row2 x y)[14]? = some (.int .i64 y.c6) := rfl
@[go_sem] theorem row2_15 (x y : C8) : (row2 x y)[15]? = some (.int .i64 y.c7) := rfl
@[go_sem] theorem row2_sets (z z' x y : C8) : (((((((((((((((((row2 z z').setIfInBounds 0 (.int .i64 x.c0)).setIfInBounds 1 (.int .i64 x.c1)).setIfInBounds 2 (.int .i64 x.c2)).setIfInBounds 3 (.int .i64 x.c3)).setIfInBounds 4 (.int .i64 x.c4)).setIfInBounds 5 (.int .i64 x.c5)).setIfInBounds 6 (.int .i64 x.c6)).setIfInBounds 7 (.int .i64 x.c7)).setIfInBounds 8 (.int .i64 y.c0)).setIfInBounds 9 (.int .i64 y.c1)).setIfInBounds 10 (.int .i64 y.c2)).setIfInBounds 11 (.int .i64 y.c3)).setIfInBounds 12 (.int .i64 y.c4)).setIfInBounds 13 (.int .i64 y.c5)).setIfInBounds 14 (.int .i64 y.c6)).setIfInBounds 15 (.int .i64 y.c7)) = row2 x y := by simp only [row2, List.setIfInBounds_toArray, List.set_cons_zero, List.set_cons_succ]
def sideV (x : C8 × C8) : Array Value := #[.agg (row2 x.1 x.2)]
theorem run_side (x y : C8) (w : World) : (Instr.build 91 #[(0, .agg (row x)), (1, .agg (row y))]).run Try.prog w = .ok (.agg (row2 x y)) w := by kernel_rfl
theorem wp_build_side {op : Oper} {a : Act} {w : World} {K : Act → World → Prop} {Q : Exit → Act → World → Prop} (i j : Tmp) (ho : op.op = .build 91 #[(0, .tmp i), (1, .tmp j)]) (x y : C8) (hi : a.eval (.tmp i) = cv x) (hj : a.eval (.tmp j) = cv y)
    (h : K (a.put op.dst (.agg (row2 x y))) w) : op.wp Try.prog a w K Q := by
  unfold Oper.wp execOp
  simp only [ho, List.map_toArray, List.map_cons, List.map_nil, hi, hj, Sem.run_bind, Sem.run_pure, run_side, Result.andThen_ok]
  exact h
theorem ptAt_below {w w' : World} {b o n₀ : Nat} {x : C8} (h : PtAt w b o x) (hw : Below n₀ w w') (hb : b < n₀) : PtAt w' b o x := fun j v hv => (hw.cell (p := ⟨b, o + j, none⟩) hb).trans (h j v hv)
theorem ptAt_alloc {w : World} {b o : Nat} {x : C8} (h : PtAt w b o x) (hb : b < w.heap.size) (ob : Obj) : PtAt (w.alloc ob) b o x := fun j v hv => by
  have e : (w.alloc ob).cell? ⟨b, o + j, none⟩ = w.cell? ⟨b, o + j, none⟩ := ((Below.refl w.heap.size w).alloc (Nat.le_refl _) ob).cell (p := ⟨b, o + j, none⟩) hb
  rw [e]; exact h j v hv
theorem ptAt_drew {w : World} {b o : Nat} {x : C8} (h : PtAt w b o x) : PtAt w.drew b o x := h
/-- What a round that goes on keeps: all below n₀, and the closure's own box. -/
def KpS (n₀ Bs : Nat) (W W' : World) : Prop := Below n₀ W W' ∧ W'.heap[Bs]? = W.heap[Bs]?
theorem KpS.trans {n₀ Bs : Nat} {A B C : World} (h : KpS n₀ Bs A B) (h2 : KpS n₀ Bs B C) : KpS n₀ Bs A C := ⟨h.1.trans h2.1, h2.2.trans h.2⟩
theorem KpS.refl (n₀ Bs : Nat) (W : World) : KpS n₀ Bs W W := ⟨Below.refl _ _, rfl⟩
theorem KpS.alloc {n₀ Bs : Nat} {W W' : World} (h : KpS n₀ Bs W W') (hn : n₀ ≤ W'.heap.size) (hB : Bs < W'.heap.size) (o : Obj) : KpS n₀ Bs W (W'.alloc o) := ⟨h.1.alloc hn _, (by obtain ⟨_, _, _, _, h5⟩ := (Below.refl W'.heap.size W').alloc (Nat.le_refl _) o; exact (h5 Bs hB).trans h.2)⟩
theorem KpS.drew {n₀ Bs : Nat} {W W' : World} (h : KpS n₀ Bs W W') : KpS n₀ Bs W W'.drew := ⟨h.1.drew, h.2⟩
set_option maxRecDepth 100000 in
set_option maxHeartbeats 400000 in
theorem sides1_in (Pr : C8 × C8 → Prop) (l Bs n₀ b cap n : Nat) (xs : List C8) (hn : xs.length = n) (hn1 : n ≤ 1048576) (hb : b < n₀) (J Jx : List (C8 × C8) → World → Prop)
    (hPr : ∀ k, k < xs.length → Pr (sideOf xs k)) (hY : ∀ pre x W, Pr x → J pre W → pre.length < n → YieldAt Fence.wide 0 Try.prog l (sideV x) W fun e W' =>
      (e = .returned (.bool true) ∧ J (pre ++ [x]) W' ∧ KpS n₀ Bs W W') ∨ (e = .returned (.bool false) ∧ Jx (pre ++ [x]) W'))
    (hJ : ∀ pre W o, J pre W → J pre (W.alloc o)) (hJd : ∀ pre W, J pre W → J pre W.drew)
    (W : World) (hBs0 : Bs < W.heap.size) (hn0 : n₀ ≤ W.heap.size) (hBs : W.cell? ⟨Bs, 0, none⟩ = some (.slice (some ⟨b, 0, none⟩) n cap)) (hc : ∀ i, i < n → PtAt W b (i * 8) (xs.getD i C8.zero)) (h0 : J [] W) :
    CallsIn Fence.wide 1 Try.prog 116 #[.func (.yield l) #[] #[], .pointer (some ⟨Bs, 0, none⟩)] W fun e W' => (∃ v, e = .returned v) ∧
      ((∃ ys, ys = sidesUpto xs n ∧ J ys W') ∨ (∃ pre, (∃ k, k ≤ n ∧ pre = sidesUpto xs k) ∧ Jx pre W')) := by
  refine callsIn_of_wp Try.func116 rfl trivial ?_ rfl
  simp only [Try.ntmps116, List.size_toArray, List.length_cons, List.length_nil, Nat.reduceAdd, Nat.reduceSub, Array.replicate_succ, Array.replicate_zero, List.push_toArray, List.append_toArray, List.nil_append, List.cons_append]
  have HC := Lib.hid hc
  have HJ := Lib.hid hJ
  have HJd := Lib.hid hJd
  have HN := Lib.hid hn
  clear hc hJ hJd hn
  gi_wp2
  gi_loopw [7] (fun i wr => ∃ k : Nat, k ≤ n ∧ i = .int .i64 k ∧ J (sidesUpto xs k) wr ∧ KpS n₀ Bs W wr)
    (fun i _ => n - (intOf i).toNat)
  case atStart => exact ⟨0, Nat.zero_le _, rfl, h0, KpS.refl _ _ _⟩
  case round =>
    obtain ⟨k, hk, rfl, hJs, hnx⟩ := hrel
    have hBr : wr.cell? ⟨Bs, 0, none⟩ = _ := (World.cell?_of_block (w := W) hnx.2).trans hBs
    have hBz : Bs < wr.heap.size := by have := hnx.1.size; omega
    by_cases hlt : k < n
    · obtain ⟨m', hm'⟩ : ∃ m', (k + 1) % n = m' := ⟨_, rfl⟩
      have hm : m' < n := by rw [← hm']; exact Nat.mod_lt _ (by omega)
      have hmI : ((k : Int) + 1) % (n : Int) = (m' : Int) := by rw [← hm']; exact_mod_cast rfl
      obtain ⟨x, hx⟩ : ∃ x, xs.getD k C8.zero = x := ⟨_, rfl⟩
      obtain ⟨y, hy⟩ : ∃ y, xs.getD m' C8.zero = y := ⟨_, rfl⟩
      have hside : sideOf xs k = (x, y) := by rw [sideOf, HN.out, hm', hx, hy]
      clear hm'
      have hprk := hPr k (by rw [HN.out]; exact hlt)
      rw [hside] at hprk
      have px := ptAt_below (HC.out k hlt) hnx.1 hb
      have py := ptAt_below (HC.out _ hm) hnx.1 hb
      rw [hx] at px
      rw [hy] at py
      have HX := Lib.hid px
      have HY := Lib.hid py
      obtain ⟨x0, x1, x2, x3, x4, x5, x6, x7⟩ := px.cells
      clear px py
      have hbr : b < wr.heap.size := by have := hnx.1.size; omega
      have hBr1 : (wr.alloc (.cells (row x) 25)).cell? ⟨Bs, 0, none⟩ = some (.slice (some ⟨b, 0, none⟩) n cap) := (((Below.refl wr.heap.size wr).alloc (Nat.le_refl _) _).cell (p := ⟨Bs, 0, none⟩) hBz).trans hBr
      have HY1 := Lib.hid (ptAt_drew (ptAt_alloc HY.out hbr (.cells (row x) 25)))
      obtain ⟨fn, tmps, assign, body, hyy, hR⟩ := hY (sidesUpto xs k) (x, y) ((wr.alloc (.cells (row x) 25)).drew) hprk (HJd.out _ _ (HJ.out _ _ _ hJs)) (by rw [sidesUpto_length]; exact hlt)
      dsimp only [sideV] at hyy
      have HRR := Lib.hid hR
      have ht : ((k : Int) + 1).tmod (n : Int) = (m' : Int) := by
        rw [Int.tmod_eq_emod_of_nonneg (by omega)]; exact hmI
      have hn00 : ¬ (n : Int) = 0 := by omega
      have hwk : IntKind.i64.wrap ((k : Int) + 1) = (k : Int) + 1 := by rw [IntKind.wrap_i64]; omega
      clear hR hY hprk hPr
      gi_wp2
      refine region_fixedIn (lets_wide 1) (fun w' => w' = (wr.alloc (.cells (row x) 25)).drew) (by kernel_rfl) 11 [.func (.yield l) #[] #[], cv x, .slice (some ⟨b, 0, none⟩) n cap, .int .i64 k, .int .i64 ((k : Int) + 1), .slice (some ⟨b, 0, none⟩) n cap, .int .i64 n, .int .i64 (m' : Int), .pointer (some ⟨b, m' * 8, none⟩), cv y, .agg (row2 x y)] (by simp) (by kernel_rfl) (by kernel_rfl) rfl ?_ ?_
      · simp only [List.take_succ_cons, List.take_zero, puts, Act.put, List.setIfInBounds_toArray, List.set_cons_zero, List.set_cons_succ]
        refine ⟨?_, ?_, ?_, ?_, ?_, ?_, ?_, ?_, ?_, ?_, ?_, trivial⟩
        all_goals
          refine Or.inl ⟨by kernel_rfl, ?_⟩
          rintro w' rfl K hK
        iterate 9
          · go_simp
            try go_wp2_with fail
            try with_reducible exact hK.out _ rfl
        · refine wp_load_mid 25 (.tmp 20) rfl b (m' * 8) rfl (row y).toList _ HY1.out Try.underlying25 rfl infoC8 ?_
          simp only [Act.put, Array.toArray_toList, List.setIfInBounds_toArray, List.set_cons_zero, List.set_cons_succ]
          with_reducible exact hK.out _ rfl
        · refine wp_build_side 13 21 rfl x y rfl rfl ?_
          simp only [Act.put, List.setIfInBounds_toArray, List.set_cons_zero, List.set_cons_succ]
          with_reducible exact hK.out _ rfl
      · rintro w' rfl
        simp only [List.take_succ_cons, List.take_zero, puts, Act.put, List.setIfInBounds_toArray, List.set_cons_zero, List.set_cons_succ, List.drop_succ_cons, List.drop_zero]
        gi_wp2
        refine HRR.out.mono ?_
        rintro e W3 (⟨rfl, hJ3, hk3⟩ | ⟨rfl, hJx3⟩)
        · gi_wp2
          go_roundw
          case rel => exact ⟨k + 1, by omega, by go_num, by rw [sidesUpto_succ, hside]; exact hJ3, (hnx.alloc (by have := hnx.1.size; omega) hBz _).drew.trans hk3⟩
          case measure => simp [intOf]; omega
        · gi_wp2
          refine bodyPost_ret (results_none rfl _ _ _) rfl ?_
          exact ⟨⟨_, rfl⟩, .inr ⟨_, ⟨k + 1, by omega, by rw [sidesUpto_succ, hside]⟩, hJx3⟩⟩
    · obtain rfl : k = n := by omega
      gi_wp2
      go_end0
      exact ⟨⟨_, rfl⟩, .inl ⟨_, rfl, hJs⟩⟩
/-- A side of which something is known. -/
abbrev Sd (Pr : C8 × C8 → Prop) := { x : C8 × C8 // Pr x }
/-- The iterator of the sides of a row, from where the loop begins. -/
theorem sides_stops (Pr : C8 × C8 → Prop) (Bs n₀ b cap : Nat) (xs : List C8) (hn1 : xs.length ≤ 1048576) (hb : b < n₀) (hPr : ∀ k, k < xs.length → Pr (sideOf xs k)) (w : World) (hBs0 : Bs < w.heap.size) (hn0 : n₀ ≤ w.heap.size) (hBs : w.cell? ⟨Bs, 0, none⟩ = some (.slice (some ⟨b, 0, none⟩) xs.length cap)) (hc : ∀ i, i < xs.length → PtAt w b (i * 8) (xs.getD i C8.zero)) :
    SeqStopsK Fence.wide 1 Try.prog 116 #[.pointer (some ⟨Bs, 0, none⟩)] (fun x : Sd Pr => sideV x.1) (KpS n₀ Bs) (fun ys => ys.map (·.1) = sidesUpto xs xs.length) (fun pre => ∃ k, k ≤ xs.length ∧ pre.map (·.1) = sidesUpto xs k) xs.length w := fun l J Jx W hW hJ _ hY h0 => by
  have hBs' := (hW.cell (p := ⟨Bs, 0, none⟩) hBs0).trans hBs
  refine (sides1_in Pr l Bs n₀ b cap xs.length xs rfl hn1 hb (fun pre W => ∃ p : List (Sd Pr), p.map (·.1) = pre ∧ J p W) (fun pre W => ∃ p : List (Sd Pr), p.map (·.1) = pre ∧ Jx p W) hPr ?_
    (fun pre W1 o ⟨p, hp, h⟩ => ⟨p, hp, hJ p W1 _ none h (World.grownBy_alloc W1 o none) (fun r e => by cases e)⟩) (fun pre W1 ⟨p, hp, h⟩ => ⟨p, hp, hJ p W1 _ none h ⟨rfl, rfl, rfl, Nat.le_refl _, fun _ _ _ => rfl⟩ (fun r e => by cases e)⟩) W (by have := hW.size; omega) (by have := hW.size; omega) hBs' (fun i hi => ptAt_below (hc i hi) hW (by omega)) ⟨[], rfl, h0⟩).mono ?_
  · rintro pre x W1 hx ⟨p, rfl, hj⟩ hlen
    obtain ⟨fn, tmps, assign, body, h1, h2⟩ := hY p ⟨x, hx⟩ W1 hj (by simpa using hlen)
    refine ⟨fn, tmps, assign, body, h1, h2.mono ?_⟩
    rintro e W' (⟨rfl, h3, h4⟩ | ⟨rfl, h3⟩)
    · exact .inl ⟨rfl, ⟨_, by simp, h3⟩, h4⟩
    · exact .inr ⟨rfl, _, by simp, h3⟩
  · rintro e W' ⟨he, ⟨ys, rfl, p, hp, hj⟩ | ⟨pre, hk, p, hp, hj⟩⟩
    · exact ⟨he, .inl ⟨_, hp, hj⟩⟩
    · obtain ⟨k, hk1, rfl⟩ := hk
      exact ⟨he, .inr ⟨_, ⟨k, hk1, hp⟩, hj⟩⟩
end Go.Proofs.Ytklmlodapinflaa
