/- The laws' test of numbers part by part: true of equal numbers that are no NaN. Swings: facts on the numbers, as the laws want them. Swings: the first number that is 0, that has a small part; the program. -/
import Derived.Test.YtmoajpkgdimdaaaFloatD
import Derived.Deep.RegionHeld3
import Derived.Test.YtmoajpkgdimdaaaSwingC
section -- a part
namespace Go.Proofs.Ytmoajpkgdimdaaa
open Go.RowKit

theorem run_inv {P : Program} (w : World) (T : TypeId) {x y : Nat} (h : Ieee.double.div 4607182418800017408 x = some y) : (binOp .quo T (.float .f64 4607182418800017408) (.float .f64 x)).run P w = .ok (.float .f64 y) w :=
  run_float_arith w .quo T .f64 _ x y h
set_option maxRecDepth 100000 in
set_option maxHeartbeats 1000000 in
theorem zeroAlike_same (x : Nat) (hx : NN64 x) (w : World) :
    Calls Try.prog 21 #[.float .f64 x, .float .f64 x] w fun e w' => e = .returned (.bool true) ∧ w = w' := by
  obtain ⟨y, hy, hny⟩ := inv_some hx
  have o1 := order_self64 hx
  have o2 := order_self64 hny
  have r1 := fun w => run_inv (P := Try.prog) w 43 hy
  clear hy hny hx
  go_enter Try.func21, Try.ntmps21
  go_wp2
  go_ret
  exact ⟨rfl, rfl⟩
set_option maxRecDepth 100000 in
set_option maxHeartbeats 1000000 in
theorem wideAlike_same (x y : Nat) (hx : NN64 x) (hy : NN64 y) (w : World) :
    Calls Try.prog 8 #[.complex .f64 x y, .complex .f64 x y] w fun e w' => e = .returned (.bool true) ∧ w = w' := by
  have HX := Lib.hid hx
  have HY := Lib.hid hy
  clear hx hy
  go_enter Try.func8, Try.ntmps8
  go_wp2_with (go_at_call 21; refine (zeroAlike_same _ (by first | (with_reducible exact HX.out) | (with_reducible exact HY.out)) _).mono ?_; rintro e w' ⟨rfl, rfl⟩)
  go_ret
  exact ⟨rfl, rfl⟩
theorem run_to128 (w : World) {x y : Nat} (hx : NN32 x) (hy : NN32 y) : (convert 23 28 (.complex .f32 x y)).run Try.prog w = .ok (.complex .f64 (to64 x) (to64 y)) w :=
  run_convert_complex w _ _ .f32 .f64 x y _ _ (by kernel_rfl) (by kernel_rfl) (by unfold cConvBits; rw [(to64_some hx).1, (to64_some hy).1]; rfl)
end Go.Proofs.Ytmoajpkgdimdaaa
end
section -- a part
namespace Go.Proofs.Ytmoajpkgdimdaaa
open Go.RowKit

/-- Two words that compare as equal: the same, or zeros. -/
def Zeq (x y : Nat) : Prop := x = y ∨ (x % 2147483648 = 0 ∧ y % 2147483648 = 0)
theorem order_zz {x y : Nat} (hx : x % 2147483648 = 0) (hy : y % 2147483648 = 0) : FloatKind.f32.format.order x y = some .eq := by
  show (Ieee.single.read x).order (Ieee.single.read y) = some .eq
  rw [read32, read32, if_pos (by omega), if_pos (by omega), hx, hy]
  generalize (x / 2147483648 % 2 == 1) = a
  generalize (y / 2147483648 % 2 == 1) = b
  cases a <;> cases b <;> decide +kernel
theorem order_zeq {x y : Nat} (h : Zeq x y) (hn : NN32 x) : FloatKind.f32.format.order x y = some .eq := by
  rcases h with rfl | ⟨h1, h2⟩
  · exact order_self32 hn
  · exact order_zz h1 h2
theorem neg0_zeq {x y : Nat} (h : Zeq x y) : Zeq (neg0 x) (neg0 y) := by
  rcases h with rfl | ⟨h1, h2⟩
  · exact Or.inl rfl
  · right; unfold neg0; rw [if_pos h1, if_pos h2]; exact ⟨rfl, rfl⟩
theorem neg0_two {x : Nat} (h : Fin32 x) : Zeq (neg0 (neg0 x)) x := by
  by_cases hx : x % 2147483648 = 0
  · right; refine ⟨?_, hx⟩; unfold neg0; rw [if_pos hx]; rfl
  · exact Or.inl (neg0_neg0 h hx)
theorem Zeq.trans {x y z : Nat} (h : Zeq x y) (h2 : Zeq y z) : Zeq x z := by
  rcases h with rfl | ⟨h1, h3⟩
  · exact h2
  · rcases h2 with rfl | ⟨h4, h5⟩
    · exact Or.inr ⟨h1, h3⟩
    · exact Or.inr ⟨h1, h5⟩
def ZeqZ (a b : Z2) : Prop := Zeq a.1 b.1 ∧ Zeq a.2 b.2
theorem tuZ4 {z : Z2} (h : FinZ z) : ZeqZ (tuZ (tuZ (tuZ (tuZ z)))) z := ⟨neg0_two h.1, neg0_two h.2⟩
theorem ZeqZ.trans {a b c : Z2} (h : ZeqZ a b) (h2 : ZeqZ b c) : ZeqZ a c := ⟨h.1.trans h2.1, h.2.trans h2.2⟩
theorem itr_four (z : Z2) (h : FinZ z) : ∀ n, ZeqZ (itr tuZ (4 * n) z) z
  | 0 => ⟨Or.inl rfl, Or.inl rfl⟩
  | n + 1 => (tuZ4 (itr_fin (fun _ => tuZ_fin) h (4 * n))).trans (itr_four z h n)
theorem itr_add (f : Z2 → Z2) (z : Z2) (a : Nat) : ∀ b, itr f (a + b) z = itr f b (itr f a z)
  | 0 => rfl
  | b + 1 => by show f (itr f (a + b) z) = f (itr f b (itr f a z)); rw [itr_add f z a b]
theorem nm_four (t : Nat) (z : Z2) (h : FinZ z) : ZeqZ (nmZ t 0 z 4) z := by
  have e : nmZ t 0 z 4 = itr tuZ (4 * t) z := by
    show itr tuZ t (itr tuZ t (itr tuZ t (itr tuZ t z))) = _
    rw [show 4 * t = t + t + t + t by omega, itr_add, itr_add, itr_add]
  rw [e]; exact itr_four z h t
theorem saZ_fin {z : Z2} {t s k : Int} (h1 : z.1 < 4294967296) (h2 : z.2 < 4294967296) : FinZ (saZ z t s k) := by
  unfold saZ
  split
  · rename_i h
    simp only [saOk, Bool.and_eq_true] at h
    obtain ⟨hz, t', s', rfl, rfl, -, -⟩ := swOk_get h1 h2 h.1
    exact nmZ_fin hz _
  · exact ⟨⟨by decide, by decide⟩, ⟨by decide, by decide⟩⟩
theorem nn_z {z : Z2} (h : FinZ z) : NN32 z.1 ∧ NN32 z.2 := ⟨h.1.nn, h.2.nn⟩
theorem swingAt2 (x y : Nat) (t s k : Int) (h1 : x < 4294967296) (h2 : y < 4294967296) (w : World) :
    Calls Try.prog 10 #[swv x y t s, .int .i64 k] w fun e w' => e = .returned (.tuple #[.complex .f32 (saZ (x, y) t s k).1 (saZ (x, y) t s k).2, .bool (saOk (x, y) t s k)]) ∧ Below w.heap.size w w' := swingAt_any (x, y) t s k h1 h2 w
end Go.Proofs.Ytmoajpkgdimdaaa
end
section -- a part
namespace Go.Proofs.Ytmoajpkgdimdaaa
open Go.RowKit

def zeroB (x : Nat) : Bool := FloatKind.f32.format.order x 0 == some .eq
def gtB (x : Nat) : Bool := FloatKind.f32.format.order x 2155872256 == some .gt
def ltB (x : Nat) : Bool := FloatKind.f32.format.order x 8388608 == some .lt
def neB (x : Nat) : Bool := FloatKind.f32.format.order x 0 != some .eq
def tinyB (x : Nat) : Bool := neB x && gtB x && ltB x
def pZero (z : Z2) : Bool := zeroB z.1 && zeroB z.2
def pTiny (z : Z2) : Bool := tinyB z.1 || tinyB z.2
set_option maxRecDepth 100000 in
theorem subnormal_any (x : Nat) (w : World) :
    Calls Try.prog 34 #[.float .f32 x] w fun e w' => e = .returned (.bool (tinyB x)) ∧ w = w' := by
  rcases Bool.eq_false_or_eq_true (FloatKind.f32.format.order x 0 != some .eq) with h1 | h1
  · rcases Bool.eq_false_or_eq_true (FloatKind.f32.format.order x 2155872256 == some .gt) with h2 | h2
    · have HO := Lib.hid (show tinyB x = (FloatKind.f32.format.order x 8388608 == some .lt) by simp [tinyB, neB, gtB, ltB, h1, h2])
      go_enter Try.func34, Try.ntmps34
      go_wp2
      go_ret
      exact ⟨by rw [HO.out]; rfl, rfl⟩
    · have HO := Lib.hid (show tinyB x = false by simp [tinyB, gtB, h2])
      go_enter Try.func34, Try.ntmps34
      go_wp2
      go_ret
      exact ⟨by rw [HO.out]; rfl, rfl⟩
  · have HO := Lib.hid (show tinyB x = false by simp [tinyB, neB, h1])
    go_enter Try.func34, Try.ntmps34
    go_wp2
    go_ret
    exact ⟨by rw [HO.out]; rfl, rfl⟩
set_option maxRecDepth 100000 in
theorem l11Tiny_any (x : Nat) (w : World) :
    Calls Try.prog 57 #[.float .f32 x] w fun e w' => e = .returned (.bool (tinyB x)) ∧ w = w' := by
  rcases Bool.eq_false_or_eq_true (FloatKind.f32.format.order x 0 != some .eq) with h1 | h1
  · rcases Bool.eq_false_or_eq_true (FloatKind.f32.format.order x 2155872256 == some .gt) with h2 | h2
    · have HO := Lib.hid (show tinyB x = (FloatKind.f32.format.order x 8388608 == some .lt) by simp [tinyB, neB, gtB, ltB, h1, h2])
      go_enter Try.func57, Try.ntmps57
      go_wp2
      go_ret
      exact ⟨by rw [HO.out]; rfl, rfl⟩
    · have HO := Lib.hid (show tinyB x = false by simp [tinyB, gtB, h2])
      go_enter Try.func57, Try.ntmps57
      go_wp2
      go_ret
      exact ⟨by rw [HO.out]; rfl, rfl⟩
  · have HO := Lib.hid (show tinyB x = false by simp [tinyB, neB, h1])
    go_enter Try.func57, Try.ntmps57
    go_wp2
    go_ret
    exact ⟨by rw [HO.out]; rfl, rfl⟩

set_option maxRecDepth 100000 in
theorem isTiny_any (z : Z2) (w : World) :
    Calls Try.prog 33 #[zv z] w fun e w' => e = .returned (.bool (pTiny z)) ∧ w = w' := by
  rcases Bool.eq_false_or_eq_true (tinyB z.1) with h1 | h1
  · have HO := Lib.hid (show pTiny z = true by simp [pTiny, h1])
    go_enter Try.func33, Try.ntmps33
    go_wp2_with (go_at_call 34; refine (subnormal_any _ _).mono ?_; rintro e w' ⟨rfl, rfl⟩)
    go_ret
    exact ⟨by rw [HO.out]; rfl, rfl⟩
  · have HO := Lib.hid (show pTiny z = tinyB z.2 by simp [pTiny, h1])
    go_enter Try.func33, Try.ntmps33
    go_wp2_with (go_at_call 34; refine (subnormal_any _ _).mono ?_; rintro e w' ⟨rfl, rfl⟩)
    go_ret
    exact ⟨by rw [HO.out]; rfl, rfl⟩

/-- The first place at which P holds, of m from k on. -/
def fsF (P : Nat → Bool) : Nat → Nat → Int
  | 0, _ => -1
  | m + 1, k => if P k = true then (k : Int) else fsF P m (k + 1)
theorem fsF_yes {P : Nat → Bool} {m k : Nat} (h : P k = true) : fsF P (m + 1) k = k := by rw [fsF, if_pos h]
theorem fsF_no {P : Nat → Bool} {m k : Nat} (h : P k = false) : fsF P (m + 1) k = fsF P m (k + 1) := by rw [fsF, if_neg (by rw [h]; simp)]
set_option maxRecDepth 100000 in
set_option maxHeartbeats 1000000 in
theorem firstTiny_any (z : Z2) (t s : Nat) (hz : FinZ z) (ht : t ≤ 3) (hs : s ≤ 4) (w : World) :
    Calls Try.prog 32 #[swv z.1 z.2 t s, .func (.func 33) #[] #[]] w fun e w' => e = .returned (.int .i64 (fsF (fun k => pTiny (nmZ t s z k)) 401 0)) ∧ Below w.heap.size w w' := by
  have HZ := Lib.hid hz
  clear hz
  go_enter Try.func32, Try.ntmps32
  go_wp2_with (first
    | (go_at_call 25; refine (numbers_any t s z HZ.out ht hs 401 (by omega) _).mono ?_; rintro e w2 ⟨g, cap, rfl, hcell, -, hb⟩; have HB := Lib.hid hb; clear hb; rw [nmL_len] at hcell ⊢; have HC := Lib.hid hcell; clear hcell))
  go_loop [10] (fun i => ∃ k : Nat, k ≤ 401 ∧ i = .int .i64 k ∧ Hid (fsF (fun k => pTiny (nmZ t s z k)) 401 0 = fsF (fun k => pTiny (nmZ t s z k)) (401 - k) k)) (fun i => 401 - (intOf i).toNat)
  case atStart => exact ⟨0, by omega, rfl, rfl⟩
  case round =>
    obtain ⟨k, hk, rfl, hF⟩ := hrel
    by_cases hlt : k < 401
    · have ck := HC.out k hlt
      rw [show (nmL t s z 401)[k]? = some (zv (nmZ t s z k)) by simp [nmL, hlt]] at ck
      have hm : 401 - k = (401 - (k + 1)) + 1 := by omega
      rcases Bool.eq_false_or_eq_true (pTiny (nmZ t s z k)) with hp | hp
      · have HF := Lib.hid (hF.out.trans ((congrArg (fun m => fsF (fun k => pTiny (nmZ t s z k)) m k) hm).trans (fsF_yes hp)))
        clear hF
        go_wp2_with (go_at_call 33; refine (isTiny_any _ _).mono ?_; rintro e w' ⟨rfl, rfl⟩)
        go_returns
        exact ⟨by rw [HF.out]; rfl, ((Below.refl w.heap.size w).alloc (Nat.le_refl _) _).trans (HB.out.mono (by (first | omega | (simp; omega) | (simp; done))))⟩
      · have HF := Lib.hid (hF.out.trans ((congrArg (fun m => fsF (fun k => pTiny (nmZ t s z k)) m k) hm).trans (fsF_no hp)))
        clear hF
        go_wp2_with (go_at_call 33; refine (isTiny_any _ _).mono ?_; rintro e w' ⟨rfl, rfl⟩)
        go_round
        case rel => exact ⟨k + 1, by omega, by go_num, HF⟩
        case measure => simp [intOf]; omega
    · obtain rfl : k = 401 := by omega
      have HF := Lib.hid (show fsF (fun k => pTiny (nmZ t s z k)) 401 0 = -1 from hF.out)
      clear hF
      go_wp2
      go_returns
      exact ⟨by rw [HF.out]; rfl, ((Below.refl w.heap.size w).alloc (Nat.le_refl _) _).trans (HB.out.mono (by (first | omega | (simp; omega) | (simp; done))))⟩

end Go.Proofs.Ytmoajpkgdimdaaa
end
