/- What the operations of the swings list: nothing, where they touch no memory. Steps of swings, in company: what a goroutine holds of the world; the program's step. -/
import Derived.Conc.EventLaws2
import Derived.Conc.AppendEvents2
import Derived.Conc.AppendWalk
import Derived.RowKit
import Derived.Test.YtmoajpkgdimdaaaChecked
import Derived.Test.YtmoajpkgdimdaaaCrwB
import Derived.Test.YtmoajpkgdimdaaaSwingB
import Derived.Test.YtmoajpkgdimdaaaSwingG
import Derived.Conc.CompanyMem
import Derived.Conc.CompanyWords
import Derived.Below
import Derived.OwnWalk
import Derived.KernelRfl
section -- a part
namespace Go.Proofs.Ytmoajpkgdimdaaa
open Go.Conc Go.RowKit
section
variable {P : Program} {w : World} {es : Array Event}
theorem ev_floatArith (op : BinOp) (k : FloatKind) (x y : Nat) : (Op.floatArith op k x y).events P w es = es := by
  unfold Op.floatArith
  cases op <;> simp only [pure_bind] <;> first | rfl | (split <;> simp [events_choose])
theorem ev_floatCmp (op : BinOp) (k : FloatKind) (x y : Nat) : (Op.floatCmp op k x y).events P w es = es := by
  unfold Op.floatCmp
  dsimp only
  split <;> simp
@[go_sem] theorem ev_subF (t : TypeId) (k : FloatKind) (x y : Nat) : (binOp .sub t (.float k x) (.float k y)).events P w es = es := by
  unfold binOp; simp [ev_floatArith]
@[go_sem] theorem ev_quoF (t : TypeId) (k : FloatKind) (x y : Nat) : (binOp .quo t (.float k x) (.float k y)).events P w es = es := by
  unfold binOp; simp [ev_floatArith]
@[go_sem] theorem ev_real (ts : Array TypeId) (t : TypeId) (k : FloatKind) (x y : Nat) : (Builtin.real_ ts t #[.complex k x y]).events P w es = es := rfl
@[go_sem] theorem ev_imag (ts : Array TypeId) (t : TypeId) (k : FloatKind) (x y : Nat) : (Builtin.imag_ ts t #[.complex k x y]).events P w es = es := rfl
@[go_sem] theorem ev_complex (ts : Array TypeId) (t : TypeId) (k : FloatKind) (x y : Nat) : (Builtin.complex_ ts t #[.float k x, .float k y]).events P w es = es := by
  cases k <;> rfl
theorem ev_floatToFloat (s d : FloatKind) (b : Nat) : (Conv.floatToFloat s b d).events P w es = es := by
  unfold Conv.floatToFloat
  split
  · rfl
  · dsimp only
    split <;> simp [events_choose]
theorem ev_complexNeq (t : TypeId) (k : FloatKind) (a b c d : Nat) : (binOp .neq t (.complex k a b) (.complex k c d)).events P w es = es := by
  unfold binOp Op.complexOp; simp [Op.Complex.cmp, Op.floatCmp, asBool]
end
end Go.Proofs.Ytmoajpkgdimdaaa
end
section -- a part
set_option linter.unusedSectionVars false
set_option linter.unusedVariables false
namespace Go.Proofs.Ytmoajpkgdimdaaa
open Go.Conc Go.RowKit
open Go.ConcR (Payload)

section
variable {K : Cst} {k : Nat} {w w₁ w' : World} {es : Array Event}
theorem terms (K : Cst) (k : Nat) : Terms (Rly K k) (Gua K k) := ⟨fun _ _ _ h1 h2 => h1.trans h2, fun w => Gua.idle w⟩
theorem Gua.alloc (h : K.H0 ≤ w.heap.size) (o : Obj) : Gua K k w (w.alloc o) #[] := by
  have e : ∀ b, b < w.heap.size → (w.alloc o).heap[b]? = w.heap[b]? := fun b hb => Below.heap_alloc _ _ _ hb
  have lt : ∀ {b : Nat} {x : Obj}, w.heap[b]? = some x → b < w.heap.size := fun h => (Array.getElem?_eq_some_iff.1 h).1
  exact ⟨⟨rfl, rfl, rfl⟩, by simp, fun b hb _ => e b (by omega), fun b cs _ h => (e b (lt h)).trans h, fun b cs _ h => ⟨cs, (e b (lt h)).trans h, fun _ => rfl⟩, by simp⟩
theorem Rly.alloc (h : K.H0 ≤ w.heap.size) (o : Obj) (hW : K.Wg < K.H0) : Rly K k w (w.alloc o) := by
  have e : ∀ b, b < w.heap.size → (w.alloc o).heap[b]? = w.heap[b]? := fun b hb => Below.heap_alloc _ _ _ hb
  have lt : ∀ {b : Nat} {x : Obj}, w.heap[b]? = some x → b < w.heap.size := fun h => (Array.getElem?_eq_some_iff.1 h).1
  exact ⟨by simp, fun ⟨st, sm, h'⟩ => ⟨st, sm, h'.of_block (e _ (by omega))⟩, fun b hb _ _ _ _ => e b (by omega), fun b cs _ h => (e b (lt h)).trans h, fun _ b cs _ h => (e b (lt h)).trans h⟩
theorem Gua.reads (h : ∀ e ∈ es, EvK K k w e) : Gua K k w w es := ⟨⟨rfl, rfl, rfl⟩, Nat.le_refl _, fun _ _ _ => rfl, fun _ _ _ h => h, fun _ cs _ h => ⟨cs, h, fun _ => rfl⟩, h⟩
theorem evK_read {a : Addr} (h : RO K w a.block) : EvK K k w ⟨.cell a, false, false⟩ := by
  refine ⟨by simp, by simp, by simp, fun x hx => ?_⟩
  have hx' : some (⟨.cell a, false, .plain⟩ : Touch) = some x := hx
  cases hx'
  exact .inr (.inr ⟨by simp, a, rfl, .inl ⟨rfl, h⟩⟩)
/-- Ahead of a new box. -/
structure BF (K : Cst) (k : Nat) (w0 w : World) : Prop where
  rl : Rly K k w0 w
  sz : K.H0 ≤ w.heap.size
theorem BF.rely {w0 : World} (h : BF K k w0 w) (r : Rly K k w w₁) : BF K k w0 w₁ := ⟨h.rl.trans r, Nat.le_trans h.sz r.size⟩
/-- A box of one's own. -/
structure BX (K : Cst) (k : Nat) (w0 : World) (r : Nat) (cs : Array Value) (w : World) : Prop where
  rl : Rly K k w0 w
  sz : K.H0 ≤ w.heap.size
  lo : K.H0 ≤ r
  bx : w.heap[r]? = some (.cells cs K.tb)
theorem BX.rely {w0 : World} {r : Nat} {cs : Array Value} (h : BX K k w0 r cs w) (r' : Rly K k w w₁) : BX K k w0 r cs w₁ := ⟨h.rl.trans r', Nat.le_trans h.sz r'.size, h.lo, r'.box r cs h.lo h.bx⟩
theorem BX.cell {w0 : World} {r : Nat} {cs : Array Value} (h : BX K k w0 r cs w) (i : Nat) : w.cell? ⟨r, i, none⟩ = cs[i]? := by simp [World.cell?, h.bx]
theorem BX.ro {w0 : World} {r : Nat} {cs : Array Value} (h : BX K k w0 r cs w) : RO K w r := .inr ⟨h.lo, cs, h.bx⟩
theorem BF.made {w0 : World} (h : BF K k w0 w) (hW : K.Wg < K.H0) (cs : Array Value) : BX K k w0 w.heap.size cs (w.alloc (.cells cs K.tb)) :=
  ⟨h.rl.trans (Rly.alloc h.sz _ hW), by have := h.sz; simp; omega, h.sz, heap_alloc_new w _⟩
end

variable {K : Cst} {k : Nat}
/-- The loops' frames. -/
def StI1 (K : Cst) (k : Nat) (w0 : World) (x0 y0 t s : Nat) (z : Z2) (r : Nat) (a : Act) (w : World) : Prop :=
  ∃ (i : Nat) (v3 v14 v15 v16 v17 v18 v19 v20 v21 v22 v23 v24 v25 v26 v27 v28 v29 v30 : Value) (v7 v8 v9 v10 v11 : Value), i ≤ t ∧ BX K k w0 r #[.complex .f32 x0 y0, .int .i64 t, .int .i64 s] w ∧
    a = { tmps := #[swv x0 y0 t s, zv z, .pointer (some ⟨r, 0, none⟩), v3, .complex .f32 0 0, .float .f32 (itr tuZ i z).1, .float .f32 (itr tuZ i z).2, v7, v8, v9, v10, v11, .int .i64 t, .int .i64 i, v14, v15, v16, v17, v18, v19, v20, v21, v22, v23, v24, v25, v26, v27, v28, v29, v30], defers := [] }
def StI2 (K : Cst) (k : Nat) (w0 : World) (x0 y0 t s : Nat) (z : Z2) (r : Nat) (a : Act) (w : World) : Prop :=
  ∃ (i : Nat) (v3 v13 v14 v15 v16 v17 v18 v19 v22 v23 v24 v25 v26 v27 v28 v29 v30 : Value) (v7 v8 v9 v10 v11 v12 : Value), i ≤ s ∧ BX K k w0 r #[.complex .f32 x0 y0, .int .i64 t, .int .i64 s] w ∧
    a = { tmps := #[swv x0 y0 t s, zv z, .pointer (some ⟨r, 0, none⟩), v3, .complex .f32 0 0, .float .f32 (itr haZ i (itr tuZ t z)).1, .float .f32 (itr haZ i (itr tuZ t z)).2, v7, v8, v9, v10, v11, v12, v13, v14, v15, v16, v17, v18, v19, .int .i64 s, .int .i64 i, v22, v23, v24, v25, v26, v27, v28, v29, v30], defers := [] }
def StM (n q : Nat) (a : Act) (_ : World) : Nat := match a.tmps.getD q undef with | .int _ j => n - j.toNat | _ => 0
set_option maxRecDepth 100000 in
set_option maxHeartbeats 1000000 in
theorem step_c (htb : K.tb = 25) (hW : K.Wg < K.H0) : ∃ n, ∀ (x0 y0 t s : Nat) (z : Z2) (w0 w : World), FinZ z → t ≤ 3 → s ≤ 4 → BF K k w0 w →
    CallsC Try.prog false (Rly K k) (Gua K k) 50 #[swv x0 y0 t s, zv z] n w fun v w' => v = zv (stZ t s z) ∧ BF K k w0 w' := by
  have T := terms K k
  co_apply Exists.intro
  intro x0 y0 t s z w0 w hz ht hs hF
  have HZ := Lib.hid hz
  clear hz
  co_apply callsC_of_wpC Try.func50 (by rfl) rfl
  simp only [Try.ntmps50, List.size_toArray, List.length_cons, List.length_nil, Nat.reduceAdd, Nat.reduceSub, Array.replicate_succ, Array.replicate_zero, List.push_toArray, List.append_toArray, List.nil_append, List.cons_append]
  co_apply wpC_seq T
  co_reg T
  co_opw BF.rely hF (skip) (rw [listed_nil (by simp [go_sem, *])]; exact Gua.alloc hF.sz _)
  have hX := hF.made hW #[.complex .f32 x0 y0, .int .i64 t, .int .i64 s]
  rw [htb] at hX
  clear hF
  co_go T BX.rely hX (co_quiet T)
  co_opw BX.rely hX (have hc : World.cell? _ _ = some (.int .i64 t) := hX.cell 1) (exact Gua.reads (by co_evs (exact evK_read hX.ro)))
  clear hc
  co_go T BX.rely hX (co_quiet T)
  co_apply wpC_loop T (StI1 K k w0 x0 y0 t s z _) (StM t 13) _ 3
  · exact ⟨0, _, _, _, _, _, _, _, _, _, _, _, _, _, _, _, _, _, _, _, _, _, _, _, by omega, hX, rfl⟩
  · simpa [StM] using ht
  · rintro a w ⟨i, v3, v14, v15, v16, v17, v18, v19, v20, v21, v22, v23, v24, v25, v26, v27, v28, v29, v30, v7, v8, v9, v10, v11, hi, hX, rfl⟩
    have hf := itr_fin (fun _ => tuZ_fin) HZ.out i
    have r1 := fun w => run_neg0 (P := Try.prog) w 65 hf.2
    clear hf
    co_go T BX.rely hX (co_quiet T)
    co_split T (decide ((i : Int) < (t : Int)))
    · intro hlt
      have hlt' : i < t := by have := of_decide_eq_true hlt; omega
      co_go T BX.rely hX (co_quiet T)
      have e : IntKind.i64.wrap ((i : Int) + 1) = ((i + 1 : Nat) : Int) := by rw [IntKind.wrap_i64]; omega
      rw [e]
      refine ⟨⟨i + 1, _, _, _, _, _, _, _, _, _, _, _, _, _, _, _, _, _, _, _, _, _, _, _, by omega, hX, rfl⟩, ?_⟩
      simp [StM]
      omega
    · intro hlt
      obtain rfl : t = i := by have := of_decide_eq_false hlt; omega
      clear r1
      co_go T BX.rely hX (co_quiet T)
      co_opw BX.rely hX (have hc : World.cell? _ _ = some (.int .i64 s) := hX.cell 2) (exact Gua.reads (by co_evs (exact evK_read hX.ro)))
      clear hc
      co_go T BX.rely hX (co_quiet T)
      co_apply wpC_loop T (StI2 K k w0 x0 y0 t s z _) (StM s 21) _ 4
      · exact ⟨0, _, _, _, _, _, _, _, _, _, _, _, _, _, _, _, _, _, _, _, _, _, _, _, by omega, hX, rfl⟩
      · simpa [StM] using hs
      · rintro a w ⟨q, v3, v13, v14, v15, v16, v17, v18, v19, v22, v23, v24, v25, v26, v27, v28, v29, v30, v7, v8, v9, v10, v11, v12, hq, hX, rfl⟩
        have hf := itr_fin (fun _ => haZ_fin) (itr_fin (fun _ => tuZ_fin) HZ.out t) q
        have r1 := fun w => run_half (P := Try.prog) w 65 hf.1
        have r2 := fun w => run_half (P := Try.prog) w 65 hf.2
        clear hf
        co_go T BX.rely hX (co_quiet T)
        co_split T (decide ((q : Int) < (s : Int)))
        · intro hlt
          have hlt' : q < s := by have := of_decide_eq_true hlt; omega
          co_go T BX.rely hX (co_quiet T)
          have e : IntKind.i64.wrap ((q : Int) + 1) = ((q + 1 : Nat) : Int) := by rw [IntKind.wrap_i64]; omega
          rw [e]
          refine ⟨⟨q + 1, _, _, _, _, _, _, _, _, _, _, _, _, _, _, _, _, _, _, _, _, _, _, _, by omega, hX, rfl⟩, ?_⟩
          simp [StM]
          omega
        · intro hlt
          obtain rfl : s = q := by have := of_decide_eq_false hlt; omega
          clear r1 r2
          co_go T BX.rely hX (co_quiet T)
          exact ⟨rfl, _, resultsC_tmp (by rfl) _, rfl, hX.rl, hX.sz⟩
end Go.Proofs.Ytmoajpkgdimdaaa
end
