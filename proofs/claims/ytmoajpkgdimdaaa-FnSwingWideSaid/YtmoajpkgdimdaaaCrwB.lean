/- Three workers and their starter: what is asked of each (the stops, from the end backwards), and where each stands. -/
import Derived.Test.YtmoajpkgdimdaaaCrwA
import Derived.Conc.CrowdComm
set_option linter.unusedSectionVars false
set_option linter.unusedVariables false
namespace Go.Proofs.Ytmoajpkgdimdaaa
open Go.Conc Go.ConcN
open Go.ConcR (KK wgBlock WgAt stA smA rd wr mk Payload DC0)
variable [Payload]

section
variable (K : Cst)
/-- The same goroutine but for its status. -/
def Base (g g₂ : Goroutine) : Prop := g₂.frame = g.frame ∧ g₂.callers = g.callers ∧ g₂.dying = g.dying
/-- At the release, where the library's own text takes over. -/
def At0 (k : Nat) (g : Goroutine) (w : World) : Prop := AtR0 K.P K.ty K.Wg K.C 3 0 k (K.val (k - 1)) g w ∧ (k = 3 → w.heap[K.Lb]? = some K.lost)
/-- A sender: its values; behind the last it closes. -/
def AtS (k c : Nat) (z : Value) : List Value → Goroutine → World → Prop
  | [], g, w => g.status = .running ∧ mayWake K.P g = true ∧ ∀ s r tm, w.heap[c]? = some (.chan 0 #[] false s r tm) → ∃ g' es, stepG K.P false g w = .go g' (w.setChan c 0 #[] true s r tm) es ∧ (∀ e ∈ es, EvK K k w e) ∧ g'.status = .running ∧
      ∃ m, Goes K.P false (Rly K k) (Gua K k) (At0 K k) m g' (w.setChan c 0 #[] true s r tm)
  | v :: l, g, w => g.status = .running ∧ ∃ g₂ es, Base g g₂ ∧ stepG K.P false g w = .comm g₂ #[scase c v z] true .send w es ∧ (∀ e ∈ es, EvK K k w e) ∧
      ∃ m, Goes K.P false (Rly K k) (Gua K k) (AtS k c z l) m (Go.Conc.served g₂ undef) w
def AtRb (Next : Goroutine → World → Prop) (b : Value) (g : Goroutine) (w : World) : Prop :=
  g.status = .running ∧ ∃ g₂ es, Base g g₂ ∧ stepG K.P false g w = .comm g₂ #[rcase K.cB K.zB] true (.recv false) w es ∧ (∀ e ∈ es, EvK K 3 w e) ∧ ∃ m, Goes K.P false (Rly K 3) (Gua K 3) Next m (Go.Conc.served g₂ (recvd false b true)) w
/-- The receiver: pairs; then it finds the narrow channel closed. -/
def AtRn : List (Value × Value) → Goroutine → World → Prop
  | [], g, w => g.status = .running ∧ ∃ g₂ es, Base g g₂ ∧ stepG K.P false g w = .comm g₂ #[rcase K.cN K.zN] true (.recv true) w es ∧ (∀ e ∈ es, EvK K 3 w e) ∧
      ∃ m, Goes K.P false (Rly K 3) (Gua K 3) (At0 K 3) m (Go.Conc.served g₂ (recvd true K.zN false)) w
  | (a, b) :: l, g, w => g.status = .running ∧ ∃ g₂ es, Base g g₂ ∧ stepG K.P false g w = .comm g₂ #[rcase K.cN K.zN] true (.recv true) w es ∧ (∀ e ∈ es, EvK K 3 w e) ∧
      ∃ m, Goes K.P false (Rly K 3) (Gua K 3) (AtRb K (AtRn l) b) m (Go.Conc.served g₂ (recvd true a true)) w

inductive Ph where
  | snd (l : List Value) (p : Bool)
  | nar (l : List (Value × Value)) (p : Bool)
  | brd (b : Value) (l : List (Value × Value)) (p : Bool)
  | rel
  | lib
def Ph.fin : Ph → Bool
  | .rel | .lib => true
  | _ => false
def Ph.rk : Ph → Nat
  | .snd l p => 2 * l.length + 4 - (if p then 1 else 0)
  | .nar l p => 4 * l.length + 4 - (if p then 1 else 0)
  | .brd _ l p => 4 * l.length + 6 - (if p then 1 else 0)
  | .rel => 1
  | .lib => 0

/-- Where worker k stands: (c, z: the channel it sends on). -/
inductive WS (k c : Nat) (z : Value) : Ph → Nat → Nat → Nat → Goroutine → World → Prop
  | snd {l m g w} : Goes K.P false (Rly K k) (Gua K k) (AtS K k c z l) m g w → WS k c z (.snd l false) 7 m 0 g w
  | sndP {v l m g₂ w} : Goes K.P false (Rly K k) (Gua K k) (AtS K k c z l) m (Go.Conc.served g₂ undef) w → WS k c z (.snd (v :: l) true) 7 0 0 (Go.Conc.parked g₂ #[scase c v z] .send) w
  | nar {l m g w} : k = 3 → Goes K.P false (Rly K 3) (Gua K 3) (AtRn K l) m g w → WS k c z (.nar l false) 7 m 0 g w
  | narP {a b l m g₂ w} : k = 3 → Goes K.P false (Rly K 3) (Gua K 3) (AtRb K (AtRn K l) b) m (Go.Conc.served g₂ (recvd true a true)) w → WS k c z (.nar ((a, b) :: l) true) 7 0 0 (Go.Conc.parked g₂ #[rcase K.cN K.zN] (.recv true)) w
  | narP0 {g₂ w} : k = 3 → (∀ w₁, Rly K 3 w w₁ → AtRn K [] { Go.Conc.parked g₂ #[rcase K.cN K.zN] (.recv true) with status := .running } w₁) → WS k c z (.nar [] true) 7 0 0 (Go.Conc.parked g₂ #[rcase K.cN K.zN] (.recv true)) w
  | brd {b l m g w} : k = 3 → Goes K.P false (Rly K 3) (Gua K 3) (AtRb K (AtRn K l) b) m g w → WS k c z (.brd b l false) 7 m 0 g w
  | brdP {b l m g₂ w} : k = 3 → Goes K.P false (Rly K 3) (Gua K 3) (AtRn K l) m (Go.Conc.served g₂ (recvd false b true)) w → WS k c z (.brd b l true) 7 0 0 (Go.Conc.parked g₂ #[rcase K.cB K.zB] (.recv false)) w
  | rel {m g w} : Goes K.P false (Rly K k) (Gua K k) (At0 K k) m g w → WS k c z .rel 7 m 0 g w
  | lib {s m d g w} : WSit K.P K.ty K.Wg K.C 3 (fun _ _ => False) (fun _ _ => False) 0 k (K.val (k - 1)) s m d g w → s ≤ 6 → WS k c z .lib s m d g w
end

section
variable {K : Cst} {k c : Nat} {z : Value} {ph : Ph} {s m d : Nat} {g : Goroutine} {w w₁ : World}
theorem rly_tr (k : Nat) : ∀ a b c, Rly K k a b → Rly K k b c → Rly K k a c := fun _ _ _ h1 h2 => h1.trans h2
theorem WS.rely (G : Geo K) (h : WS K k c z ph s m d g w) (hr : Rly K k w w₁) : WS K k c z ph s m d g w₁ := by
  cases h with
  | snd h => exact .snd (Goes.rely (rly_tr k) h hr)
  | sndP h => exact .sndP (Goes.rely (rly_tr k) h hr)
  | nar e h => subst e; exact .nar rfl (Goes.rely (rly_tr 3) h hr)
  | narP e h => subst e; exact .narP rfl (Goes.rely (rly_tr 3) h hr)
  | narP0 e h => subst e; exact .narP0 rfl fun w₂ h2 => h w₂ (hr.trans h2)
  | brd e h => subst e; exact .brd rfl (Goes.rely (rly_tr 3) h hr)
  | brdP e h => subst e; exact .brdP rfl (Goes.rely (rly_tr 3) h hr)
  | rel h => exact .rel (Goes.rely (rly_tr k) h hr)
  | lib h h6 => exact .lib (h.rely (hr.rw G)) h6
theorem AtS.run {l : List Value} (h : AtS K k c z l g w) : g.status = .running := by cases l <;> exact h.1
theorem AtRn.run {l : List (Value × Value)} (h : AtRn K l g w) : g.status = .running := by rcases l with _ | ⟨⟨a, b⟩, l⟩ <;> exact h.1
/-- Running, parked, or done. -/
def Ph.pk : Ph → Bool
  | .snd _ p | .nar _ p | .brd _ _ p => p
  | _ => false
theorem WS.run (h : WS K k c z ph s m d g w) (hp : ph.pk = false) (hs : s ≠ 1) : g.status = .running := by
  cases h with
  | snd h => exact Goes.running (fun _ _ x => AtS.run x) w (Rly.refl w) h
  | sndP h => simp [Ph.pk] at hp
  | nar e h => exact Goes.running (fun _ _ x => AtRn.run x) w (Rly.refl w) h
  | narP e h => simp [Ph.pk] at hp
  | narP0 e h => simp [Ph.pk] at hp
  | brd e h => exact Goes.running (fun _ _ x => x.1) w (Rly.refl w) h
  | brdP e h => simp [Ph.pk] at hp
  | rel h => exact Goes.running (fun _ _ x => x.1.1) w (Rly.refl w) h
  | lib h _ => exact h.running_of hs
theorem WS.status (h : WS K k c z ph s m d g w) : (ph.pk = false ∧ (g.status = .running ∨ g.status = .finished)) ∨ (ph.pk = true ∧ g.status = .blocked) := by
  cases h with
  | snd h => exact .inl ⟨rfl, .inl (Goes.running (fun _ _ x => AtS.run x) w (Rly.refl w) h)⟩
  | sndP h => exact .inr ⟨rfl, rfl⟩
  | nar e h => exact .inl ⟨rfl, .inl (Goes.running (fun _ _ x => AtRn.run x) w (Rly.refl w) h)⟩
  | narP e h => exact .inr ⟨rfl, rfl⟩
  | narP0 e h => exact .inr ⟨rfl, rfl⟩
  | brd e h => exact .inl ⟨rfl, .inl (Goes.running (fun _ _ x => x.1) w (Rly.refl w) h)⟩
  | brdP e h => exact .inr ⟨rfl, rfl⟩
  | rel h => exact .inl ⟨rfl, .inl (Goes.running (fun _ _ x => x.1.1) w (Rly.refl w) h)⟩
  | lib h _ => exact .inl ⟨rfl, h.status⟩
theorem WS.stage7 (h : WS K k c z ph s m d g w) (hp : ph ≠ .lib) : s = 7 ∧ d = 0 := by cases h <;> first | exact ⟨rfl, rfl⟩ | exact absurd rfl hp
theorem WS.stage6 (h : WS K k c z .lib s m d g w) : s ≤ 6 := by cases h; assumption
/-- The channel at which it is parked is open: nothing wakes it. -/
def OpenAt (w : World) (c : Nat) : Prop := ∃ s r tm, w.heap[c]? = some (.chan 0 #[] false s r tm)
theorem WS.woken (h : WS K k c z ph s m d g w) (a a' : Goroutine) (w' : World) (h1 : ∀ l, ph = .snd l true → OpenAt w' c) (h2 : ∀ l, ph = .nar l true → OpenAt w' K.cN) (h3 : ∀ b l, ph = .brd b l true → OpenAt w' K.cB) : woken K.P a a' w' g = g := by
  rcases h.status with ⟨_, hs⟩ | ⟨hp, _⟩
  · unfold Go.Conc.woken
    split
    · exact again_running _ hs
    · rfl
  · cases h with
    | sndP h => obtain ⟨s, r, tm, e⟩ := h1 _ rfl; exact woken_send_open a a' e
    | narP e h => obtain ⟨s, r, tm, e⟩ := h2 _ rfl; exact woken_recv_open a a' e
    | narP0 e h => obtain ⟨s, r, tm, e⟩ := h2 _ rfl; exact woken_recv_open a a' e
    | brdP e h => obtain ⟨s, r, tm, e⟩ := h3 _ _ rfl; exact woken_recv_open a a' e
    | _ => simp [Ph.pk] at hp
end

/-! ### the starter -/
section
variable (K : Cst) (End : Goroutine → World → Prop) (Anch : Goroutine → World → Prop)
def AtWord (e : Event) (Next : Goroutine → World → Prop) (g : Goroutine) (w : World) : Prop :=
  g.status = .running ∧ ∃ g', stepG K.P true g w = .go g' w #[e] ∧ ∃ m, Goes K.P true (Rly K 0) (DM K) Next m g' w
def AtAcqM (g : Goroutine) (w : World) : Prop := g.status = .running ∧ ∃ g', stepG K.P true g w = .go g' w #[mk (.acquire (stA K.Wg))] ∧ End g' w
def AtKeM : Goroutine → World → Prop := AtWord K (mk .enable) (AtAcqM K End)
def AtW4M (g : Goroutine) (w : World) : Prop :=
  g.status = .running ∧ (WgAt K.ty K.Wg w 0 0 → ∃ g', stepG K.P true g w = .go g' w #[rd (stA K.Wg)] ∧ ∃ m, Goes K.P true (Rly K 0) (DM K) (AtKeM K End) m g' w)
def AtW3M (g : Goroutine) (w : World) : Prop :=
  g.status = .running ∧ g.offers = none ∧
    ((∃ st, WgAt K.ty K.Wg w st 0) → stepG K.P true g w = .go { g with status := .blocked } w #[]) ∧
    (WgAt K.ty K.Wg w 0 1 → ∃ g', stepG K.P true g w = .go g' (w.setCell (smA K.Wg) (.int .u32 0)) (semEvents (smA K.Wg)) ∧ ∃ m, Goes K.P true (Rly K 0) (DM K) (AtW4M K End) m g' (w.setCell (smA K.Wg) (.int .u32 0)))
def AtW2M (vs : Nat) (g : Goroutine) (w : World) : Prop :=
  g.status = .running ∧ ∀ v : Nat, v < 2147483648 → WgAt K.ty K.Wg w (v * KK) 0 →
    (v = vs → ∃ g', stepG K.P true g w = .go g' (w.setCell (stA K.Wg) (.int .u64 (v * KK + 1))) #[rd (stA K.Wg), wr (stA K.Wg)] ∧ ∃ m, Goes K.P true (Rly K 0) (DM K) (AtW3M K End) m g' (w.setCell (stA K.Wg) (.int .u64 (v * KK + 1)))) ∧
    (v ≠ vs → ∃ g', stepG K.P true g w = .go g' w #[rd (stA K.Wg)] ∧ ∃ m, Goes K.P true (Rly K 0) (DM K) Anch m g' w)
def AtW1M (g : Goroutine) (w : World) : Prop :=
  g.status = .running ∧ ∀ v : Nat, v < 2147483648 → WgAt K.ty K.Wg w (v * KK) 0 → ∃ g', stepG K.P true g w = .go g' w #[rd (stA K.Wg)] ∧
    (v = 0 → ∃ m, Goes K.P true (Rly K 0) (DM K) (AtKeM K End) m g' w) ∧ (v ≠ 0 → ∃ m, Goes K.P true (Rly K 0) (DM K) (AtW2M K End Anch v) m g' w)
def AtKdM : Goroutine → World → Prop := AtWord K (mk .disable) Anch
/-- What the three begin with. -/
def ini (ns bs : List Value) (rs : List (Value × Value)) : Nat → Ph
  | 0 => .snd ns false
  | 1 => .snd bs false
  | _ => .nar rs false
def chOf (i : Nat) : Nat := if i = 0 then K.cN else K.cB
def zOf (_K : Cst) (_i : Nat) : Value := .tuple #[]
variable (ns bs : List Value) (rs : List (Value × Value))
/-- r workers are still to be started. -/
def AtFork : Nat → Goroutine → World → Prop
  | 0, g, w => AtKdM K Anch g w
  | r + 1, g, w => g.status = .running ∧ ∃ g' child, stepG K.P true g w = .spawn g' child w #[] ∧ (w.heap[K.Lb]? = some K.lost0 → ∃ m, WS K (3 - (r + 1) + 1) (chOf K (3 - (r + 1))) (zOf K (3 - (r + 1))) (ini ns bs rs (3 - (r + 1))) 7 m 0 child w) ∧
      ∃ m, Goes K.P true (Rly K 0) (DM K) (AtFork r) m g' w
inductive MS : CTag → Nat → Nat → Nat → Goroutine → World → Prop
  | go {r m : Nat} {g : Goroutine} {w : World} : r < 3 → Goes K.P true (Rly K 0) (DM K) (AtFork K Anch ns bs rs (r + 1)) m g w → MS (.sp r 5) (3 - (r + 1)) m 0 g w
  | kd {m : Nat} {g : Goroutine} {w : World} : Goes K.P true (Rly K 0) (DM K) (AtKdM K Anch) m g w → MS .kd 3 m 0 g w
  | anch {m : Nat} {g : Goroutine} {w : World} : Goes K.P true (Rly K 0) (DM K) Anch m g w → MS .anch 3 m 1 g w
  | w1 {m : Nat} {g : Goroutine} {w : World} : Goes K.P true (Rly K 0) (DM K) (AtW1M K End Anch) m g w → MS .w1 3 m 1 g w
  | w2 {vs m : Nat} {g : Goroutine} {w : World} : Goes K.P true (Rly K 0) (DM K) (AtW2M K End Anch vs) m g w → MS (.w2 vs) 3 m 1 g w
  | w3 {m : Nat} {g : Goroutine} {w : World} : Goes K.P true (Rly K 0) (DM K) (AtW3M K End) m g w → MS .w3 3 (m + 1) 1 g w
  | blk {g : Goroutine} {w : World} : (∀ w₁, Rly K 0 w w₁ → AtW3M K End g w₁) → MS .blk 3 0 1 { g with status := .blocked } w
  | w4 {m : Nat} {g : Goroutine} {w : World} : Goes K.P true (Rly K 0) (DM K) (AtW4M K End) m g w → MS .w4 3 m 1 g w
  | ke {m : Nat} {g : Goroutine} {w : World} : Goes K.P true (Rly K 0) (DM K) (AtKeM K End) m g w → MS .ke 3 m 1 g w
  | acq {m : Nat} {g : Goroutine} {w : World} : Goes K.P true (Rly K 0) (DM K) (AtAcqM K End) m g w → MS .acq 3 m 0 g w
end
section
variable {K : Cst} {End Anch : Goroutine → World → Prop} {ns bs : List Value} {rs : List (Value × Value)} {tag : CTag} {j f d : Nat} {a : Goroutine} {w w₁ : World}
theorem MS.rely (h : MS K End Anch ns bs rs tag j f d a w) (hr : Rly K 0 w w₁) : MS K End Anch ns bs rs tag j f d a w₁ := by
  cases h with
  | go e h => exact .go e (Goes.rely (rly_tr 0) h hr)
  | kd h => exact .kd (Goes.rely (rly_tr 0) h hr)
  | anch h => exact .anch (Goes.rely (rly_tr 0) h hr)
  | w1 h => exact .w1 (Goes.rely (rly_tr 0) h hr)
  | w2 h => exact .w2 (Goes.rely (rly_tr 0) h hr)
  | w3 h => exact .w3 (Goes.rely (rly_tr 0) h hr)
  | blk h => exact .blk fun w₂ h2 => h w₂ (hr.trans h2)
  | w4 h => exact .w4 (Goes.rely (rly_tr 0) h hr)
  | ke h => exact .ke (Goes.rely (rly_tr 0) h hr)
  | acq h => exact .acq (Goes.rely (rly_tr 0) h hr)
theorem AtFork.run {r : Nat} (h : AtFork K Anch ns bs rs r a w) : a.status = .running := by cases r <;> exact h.1
theorem MS.status (hA : ∀ g w, Anch g w → g.status = .running) (h : MS K End Anch ns bs rs tag j f d a w) : (a.status = .running ∧ tag ≠ .blk) ∨ (a.status = .blocked ∧ tag = .blk) := by
  cases h with
  | go e h => exact .inl ⟨Goes.running (fun _ _ x => AtFork.run x) w (Rly.refl w) h, by simp⟩
  | kd h => exact .inl ⟨Goes.running (fun _ _ x => x.1) w (Rly.refl w) h, by simp⟩
  | anch h => exact .inl ⟨Goes.running hA w (Rly.refl w) h, by simp⟩
  | w1 h => exact .inl ⟨Goes.running (fun _ _ x => x.1) w (Rly.refl w) h, by simp⟩
  | w2 h => exact .inl ⟨Goes.running (fun _ _ x => x.1) w (Rly.refl w) h, by simp⟩
  | w3 h => exact .inl ⟨Goes.running (fun _ _ x => x.1) w (Rly.refl w) h, by simp⟩
  | blk h => exact .inr ⟨rfl, rfl⟩
  | w4 h => exact .inl ⟨Goes.running (fun _ _ x => x.1) w (Rly.refl w) h, by simp⟩
  | ke h => exact .inl ⟨Goes.running (fun _ _ x => x.1) w (Rly.refl w) h, by simp⟩
  | acq h => exact .inl ⟨Goes.running (fun _ _ x => x.1) w (Rly.refl w) h, by simp⟩
theorem MS.size (h : MS K End Anch ns bs rs tag j f d a w) : j ≤ 3 := by cases h <;> omega
theorem MS.pend0 (h : MS K End Anch ns bs rs tag j f d a w) : pend tag = 0 ∧ tag ≠ .ret := by cases h <;> exact ⟨rfl, by simp⟩
/-- It offers nothing: nobody meets it. -/
theorem MS.wokenBy (hA : ∀ g w, Anch g w → g.status = .running) (h : MS K End Anch ns bs rs tag j f d a w) (hr : Rly K 0 w w₁) (g g' : Goroutine) :
    ∃ tag' f', MS K End Anch ns bs rs tag' j f' d (woken K.P g g' w₁ a) w₁ ∧ f' ≤ f + 1 ∧ (tag' = tag ∨ (tag = .blk ∧ tag' = .w3)) ∧ (mayWake K.P g = true → g'.status = .running → tag' ≠ .blk) := by
  rcases h.status hA with ⟨hs, ht⟩ | ⟨hs, rfl⟩
  · refine ⟨tag, f, ?_, by omega, .inl rfl, fun _ _ => ht⟩
    have : woken K.P g g' w₁ a = a := by
      unfold Go.Conc.woken
      split
      · exact again_running _ (.inl hs)
      · rfl
    rw [this]
    exact h.rely hr
  · cases h with
    | blk h =>
      rename_i g₀
      have h0 := h w (Rly.refl w)
      by_cases hw : (mayWake K.P g && g'.status != .blocked && g'.status != .waiting) = true
      · have e : woken K.P g g' w₁ { g₀ with status := .blocked } = g₀ := by
          unfold Go.Conc.woken
          rw [if_pos hw]
          obtain ⟨fr, cs, st, dy, off⟩ := g₀
          obtain ⟨h1, h2, _⟩ := h0
          simp only at h1 h2
          subst h1 h2
          rfl
        rw [e]
        exact ⟨.w3, 1, .w3 (m := 0) fun w₂ h2 => h w₂ (hr.trans h2), by omega, .inr ⟨rfl, rfl⟩, fun _ _ => by simp⟩
      · have e : woken K.P g g' w₁ { g₀ with status := .blocked } = { g₀ with status := .blocked } := by
          unfold Go.Conc.woken
          rw [if_neg hw]
        rw [e]
        refine ⟨.blk, 0, (MS.blk h).rely hr, by omega, .inl rfl, fun hm hst => absurd ?_ hw⟩
        rw [hm, hst]; rfl
end
end Go.Proofs.Ytmoajpkgdimdaaa
