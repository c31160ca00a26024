/- What the reference draws for a law: some points, and nothing old has turned. Draws of designs: the reader's places. A text cut at a byte: the library's cutting is the same; a loop that cuts. Plain theory. -/
import Derived.Test.YthojdoiffkdikaaGreatDoorDrawC
import Derived.Test.YthojdoiffkdikaaGreatDoorOpen
import Derived.Test.YthojdoiffkdikaaGreatDoorPlotG
import Derived.Lib.Join
section -- a part
namespace Go.Proofs.YthojdoiffkdikaaGreatDoor
open Go.RowKit

theorem l91Cyc_any (W w0 : World) (B g : Nat) (a : Option Addr) (len cap : Nat) (p : Int) (hgb : W.heap[g]? = some (rdObj (.slice a len cap) p)) (hv : HasB w0 B a len) (hbel : Below B w0 W) (hB : B ≤ g) (hl : len ≤ 2000) (hp : 0 ≤ p) (hp2 : p ≤ 100000) :
    Calls Tryz.prog 65 #[.pointer (some ⟨g, 0, none⟩)] W (CycPost W g (.slice a len cap) p) := by
  have e := rd_self hgb
  have hg : g < W.heap.size := by
    by_cases h : g < W.heap.size
    · exact h
    · rw [Array.getElem?_eq_none (by omega)] at hgb; cases hgb
  have h := l91Cyc_rd W w0 B g a len cap p hg hv hbel hB hl hp hp2
  rw [← e] at h
  exact h

def Drew1 (W : World) (e : Ending) (w' : World) : Prop := (∃ c : C8, e = .returned (cv c)) ∧ Below W.heap.size W w'
def Drew2 (W : World) (e : Ending) (w' : World) : Prop := (∃ c d : C8, e = .returned (.tuple #[cv c, cv d])) ∧ Below W.heap.size W w'


end Go.Proofs.YthojdoiffkdikaaGreatDoor
end
section -- a part
namespace Go.Proofs.YthojdoiffkdikaaGreatDoor
open Go.RowKit Go.PlotT

/-- A row of words in a block. -/
def Lies (w : World) (g : Nat) (ws : List Wd) : Prop := g < w.heap.size ∧ ∀ j x, ws[j]? = some x → w.cell? ⟨g, j, none⟩ = some (bstr x)
/-- A world that is another but for the reader's place, and new blocks behind. -/
structure Rd6 (w wr : World) (g : Nat) (v : Value) (p : Int) : Prop where
  os : wr.os = w.os
  tape : wr.tape = w.tape
  output : wr.output = w.output
  size : w.heap.size ≤ wr.heap.size
  block : ∀ k, k < w.heap.size → k ≠ g → wr.heap[k]? = w.heap[k]?
  rd : wr.heap[g]? = some (rdObj v p)
section
variable {w wr w2 : World} {g : Nat} {v : Value} {p p2 : Int}
theorem Rd6.refl (h : w.heap[g]? = some (rdObj v p)) : Rd6 w w g v p := ⟨rfl, rfl, rfl, Nat.le_refl _, fun _ _ _ => rfl, h⟩
theorem Rd6.below {B : Nat} (h : Rd6 w wr g v p) (hb : Below B wr w2) (h1 : g < B) (h2 : w.heap.size ≤ B) : Rd6 w w2 g v p :=
  ⟨hb.os.trans h.os, hb.tape.trans h.tape, hb.output.trans h.output, by have := hb.size; have := h.size; omega, fun k hk hne => (hb.block k (by omega)).trans (h.block k hk hne), (hb.block g h1).trans h.rd⟩
theorem Rd6.lt (h : Rd6 w wr g v p) : g < wr.heap.size := (Array.getElem?_eq_some_iff.1 h.rd).1
theorem Rd6.grow (h : Rd6 w wr g v p) (hb : Below wr.heap.size wr w2) : Rd6 w w2 g v p := h.below hb h.lt h.size
theorem Rd6.trans (h : Rd6 w wr g v p) (h2 : Rd6 wr w2 g v p2) : Rd6 w w2 g v p2 :=
  ⟨h2.os.trans h.os, h2.tape.trans h.tape, h2.output.trans h.output, by have := h2.size; have := h.size; omega, fun k hk hne => (h2.block k (by have := h.size; omega) hne).trans (h.block k hk hne), h2.rd⟩
theorem Rd6.toBelow {B : Nat} (h : Rd6 w wr g v p) (hB : B ≤ g) (hg : g < w.heap.size) : Below B w wr :=
  ⟨h.os, h.tape, h.output, h.size, fun k hk => h.block k (by omega) (by omega)⟩
theorem Rd6.lies {gl : Nat} {ws : List Wd} (h : Rd6 w wr g v p) (hl : Lies w gl ws) (hg : ¬ gl = g) : Lies wr gl ws :=
  ⟨by have := hl.1; have := h.size; omega, fun i x hx => (World.cell?_of_block (w := w) (h.block gl hl.1 hg)).trans (hl.2 i x hx)⟩
end
theorem lies_lit (w : World) (cs : Array Value) (ws : List Wd) (h : cs = (ws.map bstr).toArray) : Lies (w.alloc (.cells cs 9)) w.heap.size ws := by
  subst h
  refine ⟨by rw [World.size_alloc]; omega, fun j x hx => ?_⟩
  rw [new_cell, List.getElem?_toArray, List.getElem?_map, hx]; rfl

/-- What a draw needs of a world: the code's bytes below, the reader's place. -/
structure Drw (w0 W : World) (B g : Nat) (a : Option Addr) (len cap : Nat) (p : Int) : Prop where
  rd : W.heap[g]? = some (rdObj (.slice a len cap) p)
  hv : HasB w0 B a len
  bel : Below B w0 W
  hB : B ≤ g
  hl : len ≤ 2000
  hp : 0 ≤ p
theorem Drw.next {w0 W W' : World} {B g : Nat} {a : Option Addr} {len cap : Nat} {p p' : Int} (h : Drw w0 W B g a len cap p) (h2 : Rd6 W W' g (.slice a len cap) p') (hp : p ≤ p') : Drw w0 W' B g a len cap p' :=
  ⟨h2.rd, h.hv, h.bel.trans (h2.toBelow h.hB (Array.getElem?_eq_some_iff.1 h.rd).1), h.hB, h.hl, by have := h.hp; omega⟩
theorem Drw.lt {w0 W : World} {B g : Nat} {a : Option Addr} {len cap : Nat} {p : Int} (h : Drw w0 W B g a len cap p) : g < W.heap.size := (Array.getElem?_eq_some_iff.1 h.rd).1
def Pick6 (W : World) (g : Nat) (v : Value) (p n : Int) (e : Ending) (w' : World) : Prop := ∃ k : Int, e = .returned (.int .i64 k) ∧ 0 ≤ k ∧ k < n ∧ Rd6 W w' g v (p + 1)
theorem pick6 {w0 W : World} {B g : Nat} {a : Option Addr} {len cap : Nat} {p : Int} (h : Drw w0 W B g a len cap p) (n : Int) (hn : 1 ≤ n) (hn2 : n ≤ 1000) (hp : p ≤ 100000) :
    Calls Tryz.prog 45 #[.pointer (some ⟨g, 0, none⟩), .int .i64 n] W (Pick6 W g (.slice a len cap) p n) := by
  refine (pick_any W w0 B g a len cap p n h.rd h.hv h.bel h.hB h.hl h.hp (by omega) (by omega)).mono ?_
  rintro e w' ⟨k, d, rfl, ⟨h1, h2, -⟩, rfl⟩
  have hg := h.lt
  refine ⟨k, rfl, h1, h2 hn, ⟨rfl, rfl, rfl, by rw [size_more, size_rd]; omega, fun j hj hne => ?_, ?_⟩⟩
  · rw [heap_more _ (by rw [size_rd]; exact hj), heap_rd_other _ hne]
  · rw [heap_more _ (by rw [size_rd]; exact hg), heap_rd_same hg]
def Of6 (W : World) (g : Nat) (v : Value) (p : Int) (m : Nat) (e : Ending) (w' : World) : Prop := ∃ X : ByteArray, e = .returned (.string X) ∧ X.size ≤ m ∧ Rd6 W w' g v (p + 1)
set_option maxRecDepth 100000 in
theorem of6 {w0 W : World} {B g : Nat} {a : Option Addr} {len cap : Nat} {p : Int} (h : Drw w0 W B g a len cap p) (gl m : Nat) (ws : List Wd) (hl : Lies W gl ws) (hgl : ¬ gl = g) (h1 : 1 ≤ ws.length) (h2 : ws.length ≤ 100) (hp : p ≤ 100000) (hm : ∀ x ∈ ws, x.length ≤ m) :
    Calls Tryz.prog 46 #[.pointer (some ⟨g, 0, none⟩), .slice (some ⟨gl, 0, none⟩) ws.length ws.length] W (Of6 W g (.slice a len cap) p m) := by
  have H := Lib.hid h
  have HL := Lib.hid hl
  have HM := Lib.hid hm
  clear h hl hm
  go_enter Tryz.func46, Tryz.ntmps46
  go_wp2_with (go_at_call 45; go_must (refine (pick6 H.out ws.length (by omega) (by omega) hp).mono ?_; rintro e w1 ⟨k, rfl, hk0, hk1, hr⟩; obtain ⟨q, rfl⟩ := Int.eq_ofNat_of_zero_le hk0; have hq : q < ws.length := (by omega); have HR := Lib.hid hr; have hcq : w1.cell? ⟨gl, q, none⟩ = some (.string ⟨ws[q].toArray⟩) := (hr.lies HL.out hgl).2 q ws[q] (List.getElem?_eq_getElem hq); have hX : (⟨ws[q].toArray⟩ : ByteArray).size ≤ m := HM.out _ (List.getElem_mem hq); generalize (⟨ws[q].toArray⟩ : ByteArray) = X at hcq hX; clear hr))
  go_returns
  exact ⟨X, rfl, hX, HR.out⟩
theorem Drw.grow {w0 W W' : World} {B g : Nat} {a : Option Addr} {len cap : Nat} {p : Int} (h : Drw w0 W B g a len cap p) (hb : Below W.heap.size W W') : Drw w0 W' B g a len cap p := h.next ((Rd6.refl h.rd).grow hb) (Int.le_refl _)
theorem Rd6.grown {w wr : World} {g : Nat} {v : Value} {p : Int} (h : Rd6 w wr g v p) : w.grownBy wr (some g) := ⟨h.os, h.tape, h.output, h.size, fun k hk hne => h.block k hk (fun e => hne (by rw [e]))⟩
theorem Rd6.owns {w wr : World} {g B : Nat} {v x : Value} {p : Int} {ys : List W9} (h : Rd6 w wr g v p) (ho : OwnsW w B x ys) (hg : g < B) : OwnsW wr B x ys :=
  World.ownsRow.kept ho h.grown (by
    cases hx : x.ownBlock with
    | none => exact Or.inl rfl
    | some k => exact Or.inr (fun e => by have := (World.ownsRow.lt ho k hx).1; have := Option.some.inj e; omega))
theorem Drw.below {w0 W W' : World} {B g : Nat} {a : Option Addr} {len cap : Nat} {p p' : Int} (h : Drw w0 W B g a len cap p) (h2 : Rd6 W W' g (.slice a len cap) p') : Below B w0 W' := h.bel.trans (h2.toBelow h.hB h.lt)
def Cyc6 (W : World) (g : Nat) (v : Value) (p : Int) (e : Ending) (w' : World) : Prop := ∃ (c : C8) (p' : Int), e = .returned (cv c) ∧ p ≤ p' ∧ p' ≤ p + 20 ∧ Rd6 W w' g v p'
theorem cyc6 {w0 W : World} {B g : Nat} {a : Option Addr} {len cap : Nat} {p : Int} (h : Drw w0 W B g a len cap p) (hp : p ≤ 100000) :
    Calls Tryz.prog 65 #[.pointer (some ⟨g, 0, none⟩)] W (Cyc6 W g (.slice a len cap) p) := by
  refine (l91Cyc_any W w0 B g a len cap p h.rd h.hv h.bel h.hB h.hl h.hp hp).mono ?_
  rintro e w' ⟨c, p', h1, h2, rfl, os, d, rfl⟩
  have hg := h.lt
  refine ⟨c, p', rfl, h1, h2, ⟨rfl, rfl, rfl, by rw [size_more, size_rd]; omega, fun j hj hne => ?_, ?_⟩⟩
  · rw [heap_more _ (by rw [size_rd]; exact hj), heap_rd_other _ hne]
  · rw [heap_more _ (by rw [size_rd]; exact hg), heap_rd_same hg]
end Go.Proofs.YthojdoiffkdikaaGreatDoor
end
section -- a part
namespace Go.PlotT
variable {c : UInt8}

/-- A text cut at a byte. -/
def cutC (c : UInt8) : Wd → List Wd
  | [] => [[]]
  | x :: t => if x = c then [] :: cutC c t else match cutC c t with
    | [] => [[x]]
    | h :: r => (x :: h) :: r
theorem cutC_ne : ∀ s, cutC c s ≠ []
  | [] => by simp [cutC]
  | x :: t => by
    have := cutC_ne t
    unfold cutC; split
    · simp
    · split <;> simp
theorem cutC_append : ∀ (a : Wd), c ∉ a → ∀ (t : Wd), cutC c (a ++ c :: t) = a :: cutC c t
  | [], _, t => by simp [cutC]
  | x :: a, h, t => by
    have hx : x ≠ c := fun e => h (by simp [e])
    rw [List.cons_append, cutC, if_neg hx, cutC_append a (fun e => h (by simp [e])) t]
theorem cutC_word : ∀ (a : Wd), c ∉ a → cutC c a = [a]
  | [], _ => rfl
  | x :: a, h => by
    have hx : x ≠ c := fun e => h (by simp [e])
    rw [cutC, if_neg hx, cutC_word a (fun e => h (by simp [e]))]
theorem cutC_join : ∀ {ws : List Wd}, ws ≠ [] → (∀ w ∈ ws, c ∉ w) → cutC c (Lib.join ws [c]) = ws
  | [], h, _ => absurd rfl h
  | [a], _, h => by rw [Lib.join_one, cutC_word a (h a (by simp))]
  | a :: b :: r, _, h => by
    have e : Lib.join (a :: b :: r) [c] = a ++ c :: Lib.join (b :: r) [c] := by
      rw [Lib.join_cons, Lib.join_cons]
      simp [Lib.joinTail]
    rw [e, cutC_append a (h a (by simp)), cutC_join (by simp) fun w hw => h w (by simp [hw])]
theorem cutC_length : ∀ (s : Wd), (cutC c s).length ≤ s.length + 1
  | [] => by simp [cutC]
  | x :: t => by
    have ih := cutC_length t
    unfold cutC
    split
    · simp; omega
    · split
      · simp
      · next e => rw [e] at ih; simp at ih ⊢; omega
theorem cutC_mem : ∀ (s : Wd), ∀ w ∈ cutC c s, w.length ≤ s.length
  | [] => by simp [cutC]
  | x :: t => by
    have ih := cutC_mem t
    unfold cutC
    split
    · intro w hw
      rcases List.mem_cons.1 hw with rfl | hw
      · simp
      · have := ih w hw; simp; omega
    · split
      · simp
      · next e =>
        rw [e] at ih
        intro w hw
        rcases List.mem_cons.1 hw with rfl | hw
        · have := ih _ (List.mem_cons_self); simp; omega
        · have := ih w (by simp [hw]); simp; omega
theorem splitK_cutC : ∀ (n : Nat) (l : Wd), l.length ≤ n → Lib.splitK [c] 0 (Lib.count l [c]) l = cutC c l
  | n, l, hn => by
    rcases Classical.em (c ∈ l) with h | h
    · obtain ⟨i, hi⟩ : ∃ i : Nat, Lib.index l [c] = i := by
        have hge := Lib.index_ge l [c]
        rcases Classical.em (Lib.index l [c] = -1) with e | e
        · rw [Lib.index_one] at e
          obtain ⟨k, hk, hx⟩ := List.getElem_of_mem h
          exact absurd (by rw [List.getElem?_eq_getElem hk, hx]) (Lib.indexByte_none e k)
        · exact ⟨(Lib.index l [c]).toNat, by omega⟩
      have hi' := hi
      rw [Lib.index_one] at hi'
      obtain ⟨h1, h2⟩ := Lib.indexByte_some hi'
      obtain ⟨hlt, hx⟩ := List.getElem?_eq_some_iff.1 h1
      have hnot : c ∉ l.take i := fun e => by
        obtain ⟨k, hk, hy⟩ := List.getElem_of_mem e
        rw [List.length_take] at hk
        rw [List.getElem_take] at hy
        exact h2 k (by omega) (by rw [List.getElem?_eq_getElem (by omega), hy])
      have hcut : cutC c l = l.take i :: cutC c (l.drop (i + 1)) := by
        conv => lhs; rw [← List.take_append_drop i l, List.drop_eq_getElem_cons hlt, hx]
        exact cutC_append _ hnot _
      obtain ⟨n, rfl⟩ : ∃ m, n = m + 1 := ⟨n - 1, by omega⟩
      have ih := splitK_cutC n (l.drop (i + 1)) (by simp; omega)
      rw [Lib.count_hit (by simp) hi, Nat.add_comm 1, Lib.splitK, hi, if_neg (by simp)]
      simp only [Int.toNat_natCast, Nat.add_zero, List.length_cons, List.length_nil, Nat.zero_add] at ih ⊢
      rw [ih, hcut]
    · have e : Lib.index l [c] = -1 := by
        have hge := Lib.index_ge l [c]
        rcases Classical.em (Lib.index l [c] = -1) with e | e
        · exact e
        · obtain ⟨i, hi⟩ : ∃ i : Nat, Lib.index l [c] = i := ⟨(Lib.index l [c]).toNat, by omega⟩
          rw [Lib.index_one] at hi
          exact absurd (List.mem_of_getElem? (Lib.indexByte_some hi).1) h
      rw [Lib.count_miss e, Lib.splitK, cutC_word l h]
termination_by n => n
/-- What strings.Split returns at a space. -/
theorem splitB_cutC (s : ByteArray) : (Lib.splitB ⟨#[c]⟩ 0 (Lib.countB s ⟨#[c]⟩) s).map Value.string = (cutC c s.data.toList).map bstr := by
  have h := Lib.splitB_data ⟨#[c]⟩ 0 (Lib.countB s ⟨#[c]⟩) s
  have h2 := splitK_cutC (c := c) _ s.data.toList (Nat.le_refl _)
  have h3 : Lib.splitK (⟨#[c]⟩ : ByteArray).data.toList 0 (Lib.countB s ⟨#[c]⟩) s.data.toList = cutC c s.data.toList := h2
  rw [← h3, ← h, List.map_map]
  apply List.map_congr_left
  intro x _
  exact (bstr_data x).symm
theorem countB_cutC (s : ByteArray) : Lib.countB s ⟨#[c]⟩ + 1 = (cutC c s.data.toList).length := by
  have h := congrArg List.length (splitB_cutC (c := c) s)
  rw [List.length_map, List.length_map, Lib.splitB_all _ (show 1 ≤ (⟨#[c]⟩ : ByteArray).size from Nat.le_refl _) 0 _ s rfl] at h
  exact h

theorem cutC_hit {l : Wd} {i : Nat} (h : Lib.indexByte l c = i) : cutC c l = l.take i :: cutC c (l.drop (i + 1)) := by
  obtain ⟨h1, h2⟩ := Lib.indexByte_some h
  obtain ⟨hlt, hx⟩ := List.getElem?_eq_some_iff.1 h1
  have hnot : c ∉ l.take i := fun e => by
    obtain ⟨k, hk, hy⟩ := List.getElem_of_mem e
    rw [List.length_take] at hk
    rw [List.getElem_take] at hy
    exact h2 k (by omega) (by rw [List.getElem?_eq_getElem (by omega), hy])
  conv => lhs; rw [← List.take_append_drop i l, List.drop_eq_getElem_cons hlt, hx]
  exact cutC_append _ hnot _
theorem cutC_miss {l : Wd} (h : Lib.indexByte l c = -1) : cutC c l = [l] :=
  cutC_word l fun e => by
    obtain ⟨k, hk, hx⟩ := List.getElem_of_mem e
    exact Lib.indexByte_none h k (by rw [List.getElem?_eq_getElem hk, hx])
theorem indexByte_lt {l : Wd} {i : Nat} (h : Lib.indexByte l c = i) : i < l.length := (List.getElem?_eq_some_iff.1 (Lib.indexByte_some h).1).1

/-- A loop that cuts: what has been cut, where the word at hand begins, where the loop is. -/
def CutAtC (c : UInt8) (l : Wd) (done : List Wd) (a i : Nat) : Prop :=
  (i ≤ l.length ∧ a ≤ i ∧ done ++ cutC c (l.drop a) = cutC c l ∧ c ∉ (l.drop a).take (i - a)) ∨ (i = l.length + 1 ∧ done = cutC c l)
theorem CutAtC.start (l : Wd) : CutAtC c l [] 0 0 := Or.inl ⟨Nat.zero_le _, Nat.le_refl _, rfl, by simp⟩
theorem CutAtC.over {l : Wd} {done : List Wd} {a i : Nat} (h : CutAtC c l done a i) (hi : l.length < i) : done = cutC c l := by
  rcases h with ⟨h, -⟩ | ⟨-, h⟩
  · omega
  · exact h
theorem CutAtC.le {l : Wd} {done : List Wd} {a i : Nat} (h : CutAtC c l done a i) (hi : i ≤ l.length) : a ≤ i := by
  rcases h with ⟨-, h, -⟩ | ⟨h, -⟩ <;> omega
theorem CutAtC.ends {l : Wd} {done : List Wd} {a : Nat} (h : CutAtC c l done a l.length) : CutAtC c l (done ++ [(l.drop a).take (l.length - a)]) (l.length + 1) (l.length + 1) := by
  rcases h with ⟨-, h1, h2, h3⟩ | ⟨h, -⟩
  · refine Or.inr ⟨rfl, ?_⟩
    rw [List.take_of_length_le (by simp)] at h3 ⊢
    rw [← h2, cutC_word _ h3]
  · omega
theorem CutAtC.cut {l : Wd} {done : List Wd} {a i : Nat} (h : CutAtC c l done a i) (hx : l[i]? = some c) : CutAtC c l (done ++ [(l.drop a).take (i - a)]) (i + 1) (i + 1) := by
  obtain ⟨hlt, hx⟩ := List.getElem?_eq_some_iff.1 hx
  rcases h with ⟨-, h1, h2, h3⟩ | ⟨h, -⟩
  · refine Or.inl ⟨by omega, Nat.le_refl _, ?_, by simp⟩
    rw [← h2, List.append_assoc, List.singleton_append]
    congr 1
    have e : l.drop a = (l.drop a).take (i - a) ++ c :: l.drop (i + 1) := by
      conv => lhs; rw [← List.take_append_drop (i - a) (l.drop a), List.drop_drop, show a + (i - a) = i by omega, List.drop_eq_getElem_cons hlt, hx]
    conv => rhs; rw [e]
    exact (cutC_append _ h3 _).symm
  · omega
theorem CutAtC.on {l : Wd} {done : List Wd} {a i : Nat} {x : UInt8} (h : CutAtC c l done a i) (hx : l[i]? = some x) (hne : x ≠ c) : CutAtC c l done a (i + 1) := by
  obtain ⟨hlt, hx⟩ := List.getElem?_eq_some_iff.1 hx
  rcases h with ⟨-, h1, h2, h3⟩ | ⟨h, -⟩
  · refine Or.inl ⟨by omega, by omega, h2, ?_⟩
    rw [show i + 1 - a = (i - a) + 1 by omega, List.take_add_one]
    intro e
    rcases List.mem_append.1 e with e | e
    · exact h3 e
    · rw [List.getElem?_drop, show a + (i - a) = i by omega, List.getElem?_eq_getElem hlt, hx] at e
      simp at e
      exact hne e.symm
  · omega
end Go.PlotT
end
