/- Where a program ends (the program's own): every step; the whole way. -/
import Derived.Test.YthojdoiffkdikaaGreatDoorPlotEnd
namespace Go.Proofs.YthojdoiffkdikaaGreatDoor
open Go.RowKit Go.PlotT

theorem do_any (b : Nat) (x y : Int) (q : Nat) (hx : -1000 ≤ x ∧ x ≤ 1000) (hy : -1000 ≤ y ∧ y ≤ 1000) (hq : q < 4) (d : Bool) (c : UInt8) (hc : isSt [c] = true) (w : World) (h : w.heap[b]? = some (PB x y q d)) :
    Calls Tryz.prog 32 #[.pointer (some ⟨b, 0, none⟩), .int .u8 (c.toNat : Int)] w (DoPost w b (stepE (x, y, q) c)) := by
  have hq4 : q = 0 ∨ q = 1 ∨ q = 2 ∨ q = 3 := by omega
  rcases isSt_cases hc with rfl | rfl | rfl | rfl | rfl | rfl | rfl
  · exact do_up b x y q d w h
  · exact do_down b x y q d w h
  · rcases hq4 with rfl | rfl | rfl | rfl
    · rw [show stepE (x, y, 0) 110 = (x + (wayE ((idxE 110 + 0) % 4)).1, y + (wayE ((idxE 110 + 0) % 4)).2, 0) from rfl, show wayE ((idxE 110 + 0) % 4) = (0, 1) by decide]
      exact do_n0 b x y hx hy d w h
    · rw [show stepE (x, y, 1) 110 = (x + (wayE ((idxE 110 + 1) % 4)).1, y + (wayE ((idxE 110 + 1) % 4)).2, 1) from rfl, show wayE ((idxE 110 + 1) % 4) = (-1, 0) by decide]
      exact do_n1 b x y hx hy d w h
    · rw [show stepE (x, y, 2) 110 = (x + (wayE ((idxE 110 + 2) % 4)).1, y + (wayE ((idxE 110 + 2) % 4)).2, 2) from rfl, show wayE ((idxE 110 + 2) % 4) = (0, -1) by decide]
      exact do_n2 b x y hx hy d w h
    · rw [show stepE (x, y, 3) 110 = (x + (wayE ((idxE 110 + 3) % 4)).1, y + (wayE ((idxE 110 + 3) % 4)).2, 3) from rfl, show wayE ((idxE 110 + 3) % 4) = (1, 0) by decide]
      exact do_n3 b x y hx hy d w h
  · rcases hq4 with rfl | rfl | rfl | rfl
    · rw [show stepE (x, y, 0) 101 = (x + (wayE ((idxE 101 + 0) % 4)).1, y + (wayE ((idxE 101 + 0) % 4)).2, 0) from rfl, show wayE ((idxE 101 + 0) % 4) = (1, 0) by decide]
      exact do_e0 b x y hx hy d w h
    · rw [show stepE (x, y, 1) 101 = (x + (wayE ((idxE 101 + 1) % 4)).1, y + (wayE ((idxE 101 + 1) % 4)).2, 1) from rfl, show wayE ((idxE 101 + 1) % 4) = (0, 1) by decide]
      exact do_e1 b x y hx hy d w h
    · rw [show stepE (x, y, 2) 101 = (x + (wayE ((idxE 101 + 2) % 4)).1, y + (wayE ((idxE 101 + 2) % 4)).2, 2) from rfl, show wayE ((idxE 101 + 2) % 4) = (-1, 0) by decide]
      exact do_e2 b x y hx hy d w h
    · rw [show stepE (x, y, 3) 101 = (x + (wayE ((idxE 101 + 3) % 4)).1, y + (wayE ((idxE 101 + 3) % 4)).2, 3) from rfl, show wayE ((idxE 101 + 3) % 4) = (0, -1) by decide]
      exact do_e3 b x y hx hy d w h
  · rcases hq4 with rfl | rfl | rfl | rfl
    · rw [show stepE (x, y, 0) 115 = (x + (wayE ((idxE 115 + 0) % 4)).1, y + (wayE ((idxE 115 + 0) % 4)).2, 0) from rfl, show wayE ((idxE 115 + 0) % 4) = (0, -1) by decide]
      exact do_s0 b x y hx hy d w h
    · rw [show stepE (x, y, 1) 115 = (x + (wayE ((idxE 115 + 1) % 4)).1, y + (wayE ((idxE 115 + 1) % 4)).2, 1) from rfl, show wayE ((idxE 115 + 1) % 4) = (1, 0) by decide]
      exact do_s1 b x y hx hy d w h
    · rw [show stepE (x, y, 2) 115 = (x + (wayE ((idxE 115 + 2) % 4)).1, y + (wayE ((idxE 115 + 2) % 4)).2, 2) from rfl, show wayE ((idxE 115 + 2) % 4) = (0, 1) by decide]
      exact do_s2 b x y hx hy d w h
    · rw [show stepE (x, y, 3) 115 = (x + (wayE ((idxE 115 + 3) % 4)).1, y + (wayE ((idxE 115 + 3) % 4)).2, 3) from rfl, show wayE ((idxE 115 + 3) % 4) = (-1, 0) by decide]
      exact do_s3 b x y hx hy d w h
  · rcases hq4 with rfl | rfl | rfl | rfl
    · rw [show stepE (x, y, 0) 119 = (x + (wayE ((idxE 119 + 0) % 4)).1, y + (wayE ((idxE 119 + 0) % 4)).2, 0) from rfl, show wayE ((idxE 119 + 0) % 4) = (-1, 0) by decide]
      exact do_w0 b x y hx hy d w h
    · rw [show stepE (x, y, 1) 119 = (x + (wayE ((idxE 119 + 1) % 4)).1, y + (wayE ((idxE 119 + 1) % 4)).2, 1) from rfl, show wayE ((idxE 119 + 1) % 4) = (0, -1) by decide]
      exact do_w1 b x y hx hy d w h
    · rw [show stepE (x, y, 2) 119 = (x + (wayE ((idxE 119 + 2) % 4)).1, y + (wayE ((idxE 119 + 2) % 4)).2, 2) from rfl, show wayE ((idxE 119 + 2) % 4) = (1, 0) by decide]
      exact do_w2 b x y hx hy d w h
    · rw [show stepE (x, y, 3) 119 = (x + (wayE ((idxE 119 + 3) % 4)).1, y + (wayE ((idxE 119 + 3) % 4)).2, 3) from rfl, show wayE ((idxE 119 + 3) % 4) = (0, 1) by decide]
      exact do_w3 b x y hx hy d w h
  · exact do_turn b x y q hq d w h
theorem stepE_bd {x y : Int} {q : Nat} {n : Nat} {c : UInt8} (hx : -(n : Int) ≤ x ∧ x ≤ n) (hy : -(n : Int) ≤ y ∧ y ≤ n) (hq : q < 4) :
    (-((n + 1 : Nat) : Int) ≤ (stepE (x, y, q) c).1 ∧ (stepE (x, y, q) c).1 ≤ (n + 1 : Nat)) ∧ (-((n + 1 : Nat) : Int) ≤ (stepE (x, y, q) c).2.1 ∧ (stepE (x, y, q) c).2.1 ≤ (n + 1 : Nat)) ∧ (stepE (x, y, q) c).2.2 < 4 := by
  have hw : ∀ k, (-1 ≤ (wayE k).1 ∧ (wayE k).1 ≤ 1) ∧ (-1 ≤ (wayE k).2 ∧ (wayE k).2 ≤ 1) := by
    intro k
    unfold wayE
    repeat' split
    all_goals decide
  unfold stepE
  split
  · exact ⟨by simp only; omega, by simp only; omega, hq⟩
  · split
    · exact ⟨by simp only; omega, by simp only; omega, Nat.mod_lt _ (by omega)⟩
    · have := hw ((idxE c + q) % 4)
      exact ⟨by simp only; omega, by simp only; omega, hq⟩
/-- Where a beginning of a list ends. -/
def endK (l : Wd) (i : Nat) : Int × Int × Nat := (l.take i).foldl stepE (0, 0, 0)
theorem endK_succ {l : Wd} {i : Nat} {c : UInt8} (h : l[i]? = some c) : endK l (i + 1) = stepE (endK l i) c := by
  unfold endK
  rw [List.take_add_one, h, List.foldl_append]; rfl
theorem endK_bd (l : Wd) : ∀ i, i ≤ l.length → (-(i : Int) ≤ (endK l i).1 ∧ (endK l i).1 ≤ i) ∧ (-(i : Int) ≤ (endK l i).2.1 ∧ (endK l i).2.1 ≤ i) ∧ (endK l i).2.2 < 4
  | 0, _ => by unfold endK; simp
  | i + 1, h => by
    obtain ⟨h1, h2, h3⟩ := endK_bd l i (by omega)
    rw [endK_succ (List.getElem?_eq_getElem (show i < l.length by omega))]
    exact stepE_bd h1 h2 h3
theorem endK_all (l : Wd) : endK l l.length = endE l := by unfold endK endE; rw [List.take_length]
theorem prog_steps {l : Wd} {o : List Wd} (h : prog l = some o) : (∀ w ∈ o, isSt w = true) ∧ o.length ≤ 500 := by
  rw [prog_eq] at h
  split at h
  · cases h
  · obtain ⟨⟨a, b⟩, hf, e⟩ := Option.map_eq_some_iff.1 h
    simp only at e
    subst e
    exact fl_steps hf
/-- A place's block. -/
def MB (x y : Int) : Obj := .cells #[.int .i64 x, .int .i64 y] 27 (0, 0)
theorem MB_c {w : World} {b : Nat} {x y : Int} (h : w.heap[b]? = some (MB x y)) :
    w.cell? ⟨b, 0, none⟩ = some (.int .i64 x) ∧ w.cell? ⟨b, 1, none⟩ = some (.int .i64 y) ∧ ∀ i, w.frozen? ⟨b, i, none⟩ = false := by
  refine ⟨?_, ?_, fun i => ?_⟩
  · rw [Lib.cell_of_heap h]; rfl
  · rw [Lib.cell_of_heap h]; rfl
  · unfold World.frozen?; simp [h, MB]
def EndPost (w : World) (l : Wd) (e : Ending) (w' : World) : Prop :=
  e = .returned (.tuple #[.agg #[.int .i64 (endE (stepsB l)).1, .int .i64 (endE (stepsB l)).2.1], .int .i64 (endE (stepsB l)).2.2, .bool (prog l).isSome]) ∧ Below w.heap.size w w'
theorem MB_set {w : World} {b : Nat} (h : w.heap[b]? = some (MB 0 0)) : (w.setCell ⟨b, 0, none⟩ (.int .i64 0)).cell? ⟨b, 0, none⟩ = some (.int .i64 0) ∧ ((w.setCell ⟨b, 0, none⟩ (.int .i64 0)).setCell ⟨b, 1, none⟩ (.int .i64 0)).cell? ⟨b, 1, none⟩ = some (.int .i64 0) := by
  obtain ⟨r0, r1, -⟩ := MB_c h
  refine ⟨World.cell?_setCell_same' _ _ _ (by rw [r0]; rfl), World.cell?_setCell_same' _ _ _ ?_⟩
  simp [go_sem, r1]
theorem endK_get {L : Wd} {X : ByteArray} (h : X = ⟨L.toArray⟩) : X.data.toList = L := by rw [h]
set_option maxRecDepth 100000 in
set_option maxHeartbeats 2000000 in
theorem plotEnd_any (s : ByteArray) (m : Int) (w : World) (hm : w.cell? ⟨0, 0, none⟩ = some (.int .i64 m)) :
    Calls Tryz.prog 10 #[.string s] w (EndPost w s.data.toList) := by
  have HM2 := Lib.hid (fun o => (((Below.refl _ w).alloc (Nat.le_refl _) o).cell (p := ⟨0, 0, none⟩) (block_lt_of_cell hm)).trans hm)
  clear hm
  cases hp : prog s.data.toList with
  | none =>
    have HP := Lib.hid (show (prog s.data.toList).isSome = false by rw [hp]; rfl)
    have HS := Lib.hid (show stepsB s.data.toList = [] by rw [stepsB, hp])
    clear hp
    go_enter Tryz.func10, Tryz.ntmps10
    go_wp2_with (go_at_call 31; go_must (refine (stepsOf_any s m _ (HM2.out _)).mono ?_; rintro e w1 ⟨rfl, hb⟩; rw [HP.out, HS.out]; have hbk : w1.heap[w.heap.size]? = some (MB 0 0) := (hb.block _ (by rw [World.size_alloc]; omega)).trans (heap_alloc_new _ _); obtain ⟨r0, r1, rf⟩ := MB_c hbk; have rf0 := rf 0; have rf1 := rf 1; have HB := Lib.hid hb; have HK := Lib.hid ((((But1.refl hbk).store 0 (.int .i64 0)).store 1 (.int .i64 0)) : But1 w1 _ _ (MB 0 0)); clear hb hbk rf))
    have hk := HK.out
    have hb0 := (((((Below.refl _ w).alloc (Nat.le_refl _) _).trans (HB.out.mono (by rw [World.size_alloc]; omega))).setCell (p := ⟨w.heap.size, 0, none⟩) (Nat.le_refl _) (.int .i64 0)).setCell (p := ⟨w.heap.size, 1, none⟩) (Nat.le_refl _) (.int .i64 0))
    clear HK HB r0 r1 rf0 rf1
    generalize (w1.setCell ⟨w.heap.size, 0, none⟩ (.int .i64 0)).setCell ⟨w.heap.size, 1, none⟩ (.int .i64 0) = W2 at hk hb0 ⊢
    obtain ⟨q0, q1, -⟩ := MB_c hk.rd
    refine bodyPost_ret (by simp [results, Tryz.results10, go_sem, q0, q1]; try rfl) rfl ?_
    refine ⟨?_, ?_⟩
    · rw [HP.out, HS.out]; rfl
    · exact hb0
  | some o =>
    have HP := Lib.hid (show (prog s.data.toList).isSome = true by rw [hp]; rfl)
    have hst : ∀ c ∈ stepsB s.data.toList, isSt [c] = true := by
      intro c hc
      rw [stepsB, hp] at hc
      obtain ⟨u, hu, hcu⟩ := List.mem_flatten.1 hc
      have h2 := (prog_steps hp).1 u hu
      obtain ⟨d, rfl⟩ := isSt_one h2
      obtain rfl : c = d := by simpa using hcu
      exact h2
    have hll : (stepsB s.data.toList).length ≤ 500 := by
      have h := (steps_bytes (prog_steps hp).1).2
      have h2 := (prog_steps hp).2
      rw [stepsB, hp]
      show o.flatten.length ≤ 500
      omega
    obtain ⟨L, hL⟩ : ∃ L, stepsB s.data.toList = L := ⟨_, rfl⟩
    rw [hL] at hst hll
    have HS := Lib.hid hL
    have HST := Lib.hid hst
    clear hp hL hst
    have hcv : ∀ (X : ByteArray) (W : World), (convert 9 22 (.string X)).run Tryz.prog W = .ok (.slice (some ⟨W.heap.size, 0, none⟩) X.size (grownCap W X.size 0 5)) (Lib.bytesWorld W 5 X) :=
      fun X W => Lib.run_convert_string_bytes W _ _ _ X Tryz.underlying9 Tryz.underlying22 Tryz.underlying5
    go_enter Tryz.func10, Tryz.ntmps10
    go_wp2_with (go_at_call 31; go_must (refine (stepsOf_any s m _ (HM2.out _)).mono ?_; rintro e w1 ⟨rfl, hb⟩; rw [HP.out, HS.out]; obtain ⟨X, hX⟩ : ∃ X, (⟨L.toArray⟩ : ByteArray) = X := ⟨_, rfl⟩; rw [hX]; have HX := Lib.hid (endK_get hX.symm); clear hX; have HBK := Lib.hid ((hb.block _ (by rw [World.size_alloc]; omega)).trans (heap_alloc_new _ _) : w1.heap[w.heap.size]? = some (MB 0 0)); have hwlt : w.heap.size < w1.heap.size := (by have := hb.size; rw [World.size_alloc] at this; omega); have HB := Lib.hid hb; clear hb))
    have hn : X.size = L.length := by rw [Lib.size_eq, HX.out]
    rw [hn]
    have hbw := Lib.bytesWorld_at_old (w1.alloc (PB 0 0 0 false)) 5 X
    have hby : ∀ i c, L[i]? = some c → (Lib.bytesWorld (w1.alloc (PB 0 0 0 false)) 5 X).cell? ⟨w1.heap.size + 1, i, none⟩ = some (.int .u8 (c.toNat : Int)) := by
      intro i c hc
      have hi := (List.getElem?_eq_some_iff.1 hc).1
      have h := Lib.bytesWorld_cell (w1.alloc (PB 0 0 0 false)) 5 X i (by omega)
      rw [World.size_alloc] at h
      rw [h, HX.out, List.getD_eq_getElem?_getD, hc]; rfl
    have hbl : Below (w1.heap.size + 1) (w1.alloc (PB 0 0 0 false)) (Lib.bytesWorld (w1.alloc (PB 0 0 0 false)) 5 X) :=
      ⟨rfl, rfl, rfl, by rw [Lib.bytesWorld_size]; omega, fun k hk => hbw k (by rw [World.size_alloc]; omega)⟩
    have hsz := Lib.bytesWorld_size (w1.alloc (PB 0 0 0 false)) 5 X
    rw [World.size_alloc] at hsz
    have hpen : (Lib.bytesWorld (w1.alloc (PB 0 0 0 false)) 5 X).heap[w1.heap.size]? = some (PB 0 0 0 false) := (hbl.block _ (by omega)).trans (heap_alloc_new _ _)
    have hbelow : Below w.heap.size w (Lib.bytesWorld (w1.alloc (PB 0 0 0 false)) 5 X) :=
      (((Below.refl _ w).alloc (Nat.le_refl _) _).trans (HB.out.mono (by rw [World.size_alloc]; omega))).trans (((Below.refl _ w1).alloc (B := w.heap.size) (by omega) _).trans (hbl.mono (by omega)))
    have hres : (Lib.bytesWorld (w1.alloc (PB 0 0 0 false)) 5 X).heap[w.heap.size]? = some (MB 0 0) := (hbl.block _ (by omega)).trans ((((Below.refl _ w1).alloc (Nat.le_refl _) _).block _ hwlt).trans HBK.out)
    clear hbw hcv HX HB HBK hbl
    obtain ⟨wz, hz⟩ : ∃ wz, Lib.bytesWorld (w1.alloc (Obj.cells #[.int .i64 0, .int .i64 0, .int .i64 0, .bool false] 52)) 5 X = wz := ⟨_, rfl⟩
    have hz2 : Lib.bytesWorld (w1.alloc (PB 0 0 0 false)) 5 X = wz := hz
    rw [hz]
    rw [hz2] at hby hsz hpen hbelow hres
    clear hz hz2
    obtain ⟨cp, hcp⟩ : ∃ cp, grownCap (w1.alloc (Obj.cells #[.int .i64 0, .int .i64 0, .int .i64 0, .bool false] 52)) L.length 0 5 = cp := ⟨_, rfl⟩
    rw [hcp]
    clear hcp hn
    obtain ⟨b, hb⟩ : ∃ b, w1.heap.size = b := ⟨_, rfl⟩
    rw [hb] at hby hsz hpen hwlt ⊢
    clear hb w1
    have HBY := Lib.hid hby
    have HBE := Lib.hid hbelow
    have HRES := Lib.hid hres
    have hp0 := But1.refl hpen
    have HP0 := Lib.hid hp0
    clear hby hbelow hres hpen hp0
    go_loopw [23] (fun s wr => ∃ (i : Nat) (d : Bool), s = .int .i64 i ∧ i ≤ L.length ∧ Hid (But1 wz wr b (PB (endK L i).1 (endK L i).2.1 (endK L i).2.2 d))) (fun s _ => L.length - (intOf s).toNat)
    case atStart => exact ⟨0, false, rfl, by omega, HP0.out⟩
    case round =>
      obtain ⟨i, d, rfl, hi, hrd⟩ := hrel
      by_cases hlt : i < L.length
      · obtain ⟨c, hc⟩ : ∃ c, L[i]? = some c := ⟨_, List.getElem?_eq_getElem hlt⟩
        have hcell : wr.cell? ⟨b + 1, i, none⟩ = some (.int .u8 (c.toNat : Int)) := (World.cell?_of_block (w := wz) (hrd.out.block (b + 1) (by omega) (by omega))).trans (HBY.out i c hc)
        have HIS := Lib.hid (HST.out c (List.mem_of_getElem? hc))
        have HN := Lib.hid (endK_succ hc)
        obtain ⟨e1, e2, e3⟩ := endK_bd L i hi
        have HD := Lib.hid (do_any b _ _ _ (by omega) (by omega) e3 d c HIS.out wr hrd.out.rd)
        clear e1 e2 e3 hc
        go_wp2_with (go_at_call 32; go_must (refine HD.out.mono ?_; rintro e w2 ⟨⟨v, rfl⟩, d2, hr2⟩; have HR2 := Lib.hid (hrd.out.trans hr2); clear hr2))
        go_roundw
        case rel => exact ⟨i + 1, d2, by go_num, by omega, (by rw [HN.out]; exact HR2.out)⟩
        case measure => simp [intOf]; omega
      · obtain rfl : i = L.length := by omega
        have hE := endK_all L
        rw [hE] at hrd
        have hpc := PB_c hrd.out.rd
        obtain ⟨c0, c1, c2, c3, -⟩ := hpc
        have hres := (hrd.out.block w.heap.size (by omega) (by omega)).trans HRES.out
        obtain ⟨r0, r1, rf⟩ := MB_c hres
        have rf0 := rf 0
        have rf1 := rf 1
        clear rf
        have HR := Lib.hid hrd.out
        have HRS := Lib.hid hres
        clear hres hrd
        have HLS := HS.out
        subst HLS
        obtain ⟨p, hp⟩ : ∃ p, endE (stepsB s.data.toList) = p := ⟨_, rfl⟩
        have HE := Lib.hid hp
        rw [hp] at HR c0 c1 c2
        clear hp hE
        obtain ⟨ex, ey, eq⟩ := p
        have hbd : Below w.heap.size w wr := HBE.out.trans (HR.out.toBelow (by omega) (by omega))
        have hk : But1 wr ((wr.setCell ⟨w.heap.size, 0, none⟩ (.int .i64 ex)).setCell ⟨w.heap.size, 1, none⟩ (.int .i64 ey)).drew w.heap.size (MB ex ey) := (((But1.refl HRS.out).store 0 (.int .i64 ex)).store 1 (.int .i64 ey)).drew
        have hb2 := ((hbd.setCell (p := ⟨w.heap.size, 0, none⟩) (Nat.le_refl _) (.int .i64 ex)).setCell (p := ⟨w.heap.size, 1, none⟩) (Nat.le_refl _) (.int .i64 ey)).drew
        have HK := Lib.hid hk
        have HB2 := Lib.hid hb2
        clear hbd hk hb2
        go_wp2_with fail
        go_region_held3 (fun w' => w'.cell? ⟨b, 0, none⟩ = some (.int .i64 ex) ∧ w'.cell? ⟨b, 1, none⟩ = some (.int .i64 ey) ∧ w'.cell? ⟨b, 2, none⟩ = some (.int .i64 eq)) (first | assumption | (simp [go_sem, *]; done)) (first | fail)
        go_wp2_with fail
        have hk := HK.out
        have hb2 := HB2.out
        clear HK HB2
        generalize ((wr.setCell ⟨w.heap.size, 0, none⟩ (.int .i64 ex)).setCell ⟨w.heap.size, 1, none⟩ (.int .i64 ey)).drew = W2 at hk hb2 ⊢
        obtain ⟨q0, q1, -⟩ := MB_c hk.rd
        refine bodyPost_ret (by simp [results, Tryz.results10, go_sem, q0, q1]; try rfl) rfl ?_
        refine ⟨?_, hb2⟩
        rw [HE.out, HP.out]
end Go.Proofs.YthojdoiffkdikaaGreatDoor
