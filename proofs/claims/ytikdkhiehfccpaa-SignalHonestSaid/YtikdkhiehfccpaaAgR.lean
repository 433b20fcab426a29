/- The law for a range over an iterator that keeps state of its own in memory, where the body never leaves the loop. No program in sight. -/
import Derived.RangeFuncNested
import Derived.RangeFuncBound
import Derived.RangeFuncCalls
import Derived.RangeFuncLeaves
namespace Go.Proofs.Ytikdkhiehfccpaa
open Go.RowKit
/-- the blocks of K, and all from B on, lie as they lay -/
structure Stays (K : Nat → Prop) (B : Nat) (W W' : World) : Prop where
  size : W.heap.size ≤ W'.heap.size
  same : ∀ k, (K k ∨ B ≤ k) → k < W.heap.size → W'.heap[k]? = W.heap[k]?
theorem Stays.refl (K : Nat → Prop) (B : Nat) (W : World) : Stays K B W W := ⟨Nat.le_refl _, fun _ _ _ => rfl⟩
theorem Stays.trans {K : Nat → Prop} {B : Nat} {X Y Z : World} (h : Stays K B X Y) (k : Stays K B Y Z) : Stays K B X Z :=
  ⟨Nat.le_trans h.size k.size, fun i hi hl => (k.same i hi (Nat.lt_of_lt_of_le hl h.size)).trans (h.same i hi hl)⟩
theorem Stays.of_below {K : Nat → Prop} {B : Nat} {X Y : World} (h : Below X.heap.size X Y) : Stays K B X Y := ⟨h.size, fun k _ hl => h.block k hl⟩
theorem Stays.mono {K : Nat → Prop} {B B' : Nat} {X Y : World} (h : Stays K B X Y) (hb : B ≤ B') : Stays K B' X Y :=
  ⟨h.size, fun i hi hl => h.same i (hi.imp id fun h => Nat.le_trans hb h) hl⟩
theorem Stays.putObj {K : Nat → Prop} {B : Nat} {X Y : World} (h : Stays K B X Y) {l : Nat} (hk : ¬ K l) (hl : l < B) (o : Obj) : Stays K B X (Y.putObj l o) :=
  ⟨by simpa [World.putObj] using h.size, fun i hi hlt => by
    rw [World.putObj_heap_other (fun e => by subst e; rcases hi with hi | hi; exact hk hi; omega)]
    exact h.same i hi hlt⟩
theorem Stays.setCell {K : Nat → Prop} {B : Nat} {X Y : World} (h : Stays K B X Y) {p : Addr} (hk : ¬ K p.block) (hl : p.block < B) (v : Value) : Stays K B X (Y.setCell p v) :=
  ⟨by simpa [World.setCell] using h.size, fun i hi hlt => (Below.heap_setCell _ _ _ _ (fun e => by subst e; rcases hi with hi | hi; exact hk hi; omega)).trans (h.same i hi hlt)⟩
/-- what speaks of blocks below B alone -/
def Shut {β : Type} (B : Nat) (J : β → World → Prop) : Prop := ∀ s W W', J s W → Below B W W' → J s W'
theorem Shut.mono {β : Type} {B B' : Nat} {J : β → World → Prop} (h : Shut B J) (hb : B ≤ B') : Shut B' J := fun s W W' hs hw => h s W W' hs (hw.mono hb)
/-- the iterator's promise: all of xs come, one by one, if each round leaves the iterator's blocks as they lie -/
def SeqAll {α : Type} (F : Fence) (n : Nat) (P : Program) (g : Nat) (lb : Array Value) (encs : α → Array Value) (K : Nat → Prop) (xs : List α) (w : World) : Prop :=
  ∀ (l : Nat) (J : List α → World → Prop) (W : World), Below w.heap.size w W → Shut W.heap.size J →
    (∀ pre x suf W1, xs = pre ++ x :: suf → J pre W1 → W.heap.size ≤ W1.heap.size → YieldAt F (n - 1) P l (encs x) W1 fun e W' =>
      e = .returned (.bool true) ∧ J (pre ++ [x]) W' ∧ Stays K W.heap.size W1 W') →
    J [] W →
    CallsIn F n P g (#[.func (.yield l) #[] #[]] ++ lb) W fun e W' => (∃ v, e = .returned v) ∧ J xs W'
theorem below_putObj {B : Nat} {W : World} {l : Nat} {o : Obj} (o' : Obj) (hB : B ≤ l) (h : W.heap[l]? = some o) : Below B W (W.putObj l o') :=
  (Below.refl B W).grown (grownBy_putObj' W l o') (by have := (Array.getElem?_eq_some_iff.1 h).1; omega) (fun k e => by cases e; exact hB)
/-- the range over such an iterator -/
theorem wpIn_range_all {α : Type} {F : Fence} {n : Nat} {P : Program} {g : Operand} {ps : Array Tmp} {assign body : Code} {Q : Exit → Act → World → Prop} {a : Act} {w : World}
    (hro : F.round = none) (h1 : 1 ≤ n) {gf : Nat} {lb : Array Value} (hg : a.eval g = .func (.func gf) #[] lb) (hFg : F.fn gf) (eg : ∀ args w, (callFunc gf args).run P w = .ok (.enter gf args) w)
    {encs : α → Array Value} {K : Nat → Prop} {xs : List α} {w0 : World} (hseq : SeqAll F (n - 1) P gf lb encs K xs w0) (hb0 : Below w0.heap.size w0 w) (hK : ∀ k, K k → k < w.heap.size) (hps : ∀ x, (encs x).size = ps.size)
    (I : List α → World → Prop) (hI : Shut w.heap.size I) (h0 : I [] w)
    (Ax : α → Act → World → Prop) (hAx : ∀ x a' W l o o', Ax x a' W → W.heap[l]? = some o → o.isCells = false → Ax x a' (W.putObj l o'))
    (hassign : ∀ (l : Nat) (pre suf : List α) (x : α) (W : World) (L : Act → World → Prop), xs = pre ++ x :: suf → I pre W → w.heap.size ≤ W.heap.size → (∀ a' W', Stays K w.heap.size W W' → I pre W' → Ax x a' W' → L a' W') →
      assign.wpIn (F.inRound l) (n - 1 - 1) P (Exit.then L (fun _ _ _ => False)) { tmps := (ps.zip (encs x)).foldl (fun t (p, v) => t.setIfInBounds p v) a.tmps, defers := [] } W)
    (hbody : ∀ (l : Nat) (pre suf : List α) (x : α) (a' : Act) (W : World), xs = pre ++ x :: suf → I pre W → Ax x a' W → w.heap.size ≤ W.heap.size →
      body.wpIn (F.inRound l) (n - 1 - 1) P (fun e _ W' => e = .normal ∧ Stays K w.heap.size W W' ∧ I (pre ++ [x]) W') a' W)
    (hdone : ∀ (D : Nat) (W : World), w.heap.size ≤ D → I xs W → W.heap[D]? = some (.deferred (some [])) → Q .normal { a with defers := { target := .collected D, args := #[] } :: a.defers } W) :
    (Code.rangeFunc g ps assign body).wpIn F n P Q a w := by
  refine wpIn_rangeFunc ?_
  intro fn hfn
  rw [hro]
  obtain ⟨rec, hrec⟩ : ∃ rec : LoopState → Option Code → Loop, rec = fun st pe => { state := st, pending := pe, fn, tmps := a.tmps, params := ps, assign, body, defers := w.heap.size } := ⟨_, rfl⟩
  obtain ⟨W1, hW1⟩ : ∃ W1, (w.alloc (.deferred (some []))).alloc (.loop (rec .ready none)) = W1 := ⟨_, rfl⟩
  have hs1 : W1.heap.size = w.heap.size + 2 := by rw [← hW1]; simp
  have hL1 : W1.heap[w.heap.size + 1]? = some (.loop (rec .ready none)) := by
    rw [← hW1]; have := World.alloc_heap_new (w.alloc (.deferred (some []))) (.loop (rec .ready none)); rwa [World.size_alloc] at this
  have hK1 : W1.heap[w.heap.size]? = some (.deferred (some [])) := by
    rw [← hW1]; exact (Below.heap_alloc _ _ _ (by simp)).trans (World.alloc_heap_new w _)
  have hbW : Below w.heap.size w W1 := by rw [← hW1]; exact ((Below.refl _ w).alloc (Nat.le_refl _) _).alloc (by simp) _
  have hI1 : I [] W1 := hI _ _ _ h0 hbW
  have hnK : ¬ K (w.heap.size + 1) := fun h => by have := hK _ h; omega
  refine ⟨w.heap.size + 1, [{ target := .collected w.heap.size, args := #[] }], W1, { target := .fn (.func gf) lb, args := #[.func (.yield (w.heap.size + 1)) #[] #[]] }, W1, gf,
    #[.func (.yield (w.heap.size + 1)) #[] #[]] ++ lb, W1, ?_, ?_, ?_, ?_, fun _ => h1, ?_⟩
  · rw [← hW1, hrec]; exact run_enterLoop_outer _ _ _ _ _
  · simp only [resolve, hg]
    simp [go_sem]
  · intro f' hf'; simp [Target.leads] at hf'; subst hf'; exact hFg
  · simp [invoke, go_sem, eg]
  · refine (hseq (w.heap.size + 1)
      (fun pre W => I pre W ∧ W.heap[w.heap.size + 1]? = some (.loop (rec .ready none)) ∧ W.heap[w.heap.size]? = some (.deferred (some [])))
      W1 (hb0.trans (hbW.mono hb0.size))
      (fun s A B hs hb => ⟨hI _ _ _ hs.1 (hb.mono (by omega)), (hb.block _ (by omega)).trans hs.2.1, (hb.block _ (by omega)).trans hs.2.2⟩)
      ?_ ⟨hI1, hL1, hK1⟩).mono ?_
    · rintro pre x suf W hx ⟨hi, hl, hk⟩ hsz
      have hy := run_yield (P := P) (args := encs x) hl (by rw [hrec]; exact hps x)
      rw [hrec] at hy
      refine ⟨fn, _, assign, body, hy, roundIn_of_wpIn hfn (hassign _ pre suf x W _ hx hi (by omega) ?_)⟩
      clear hy
      intro a' Wa hst hia hax
      have hla : Wa.heap[w.heap.size + 1]? = some (.loop (rec .ready none)) := (hst.same _ (.inr (by omega)) (Array.getElem?_eq_some_iff.1 hl).1).trans hl
      have hka : Wa.heap[w.heap.size]? = some (.deferred (some [])) := (hst.same _ (.inr (Nat.le_refl _)) (Array.getElem?_eq_some_iff.1 hk).1).trans hk
      have hlt : w.heap.size + 1 < Wa.heap.size := (Array.getElem?_eq_some_iff.1 hla).1
      refine ⟨_, run_beginRound hla (by rw [hrec]), ?_⟩
      have hl2 : (Wa.putObj (w.heap.size + 1) (.loop { rec .ready none with state := .busy })).heap[w.heap.size + 1]? = some (.loop { rec .ready none with state := .busy }) := World.putObj_heap_same hlt
      have hk2 : (Wa.putObj (w.heap.size + 1) (.loop { rec .ready none with state := .busy })).heap[w.heap.size]? = some (.deferred (some [])) := (World.putObj_heap_other (by omega)).trans hka
      have hi2 := hI _ _ _ hia (below_putObj (B := w.heap.size) (.loop { rec .ready none with state := .busy }) (by omega) hla)
      refine wpIn_mono (hbody _ pre suf x a' _ hx hi2 (hAx x a' _ _ _ _ hax hla rfl) (by simp [World.putObj]; omega)) ?_
      rintro e a3 W3 ⟨rfl, hs3, hi3⟩
      have hl3 := (hs3.same _ (.inr (by omega)) (Array.getElem?_eq_some_iff.1 hl2).1).trans hl2
      have hk3 := (hs3.same _ (.inr (Nat.le_refl _)) (Array.getElem?_eq_some_iff.1 hk2).1).trans hk2
      have hr := run_endRound (P := P) none hl3
      have hs2 : Stays K W1.heap.size W W3 := ((hst.mono (by omega)).putObj hnK (by omega) _).trans (hs3.mono (by omega))
      refine ⟨_, _, hr, rfl, ⟨hI _ _ _ hi3 (below_putObj _ (by omega) hl3), ?_, (World.putObj_heap_other (by omega)).trans hk3⟩, hs2.putObj hnK (by omega) _⟩
      rw [World.putObj_heap_same (Array.getElem?_eq_some_iff.1 hl3).1]
      simp [hrec]
    · rintro e W2 ⟨⟨v, rfl⟩, hi, hl, hk⟩
      exact ⟨none, _, by have := run_endLoop (P := P) hl (by rw [hrec]; simp); rw [hrec] at this; exact this, hdone _ _ (Nat.le_refl _) (hI _ _ _ hi (below_putObj _ (by omega) hl)) ((World.putObj_heap_other (by omega)).trans hk)⟩
/-- the same, where the assign code lays the loop's variables into blocks of their own: u says which -/
theorem wpIn_range_box {α σ : Type} {F : Fence} {n : Nat} {P : Program} {g : Operand} {ps : Array Tmp} {assign body : Code} {Q : Exit → Act → World → Prop} {a : Act} {w : World}
    (hro : F.round = none) (h1 : 1 ≤ n) {gf : Nat} {lb : Array Value} (hg : a.eval g = .func (.func gf) #[] lb) (hFg : F.fn gf) (eg : ∀ args w, (callFunc gf args).run P w = .ok (.enter gf args) w)
    {encs : α → Array Value} {K : Nat → Prop} {xs : List α} {w0 : World} (hseq : SeqAll F (n - 1) P gf lb encs K xs w0) (hb0 : Below w0.heap.size w0 w) (hK : ∀ k, K k → k < w.heap.size) (hps : ∀ x, (encs x).size = ps.size)
    (I : List α → World → Prop) (hI : Shut w.heap.size I) (h0 : I [] w)
    (Bx : α → σ → World → Prop) (hBx : ∀ x u W l o o', Bx x u W → W.heap[l]? = some o → o.isCells = false → Bx x u (W.putObj l o')) (put : σ → Array Value → Array Value)
    (hassign : ∀ (l : Nat) (pre suf : List α) (x : α) (W : World) (L : Act → World → Prop), xs = pre ++ x :: suf → I pre W → w.heap.size ≤ W.heap.size →
      (∀ u W', Stays K w.heap.size W W' → I pre W' → Bx x u W' → L { tmps := put u ((ps.zip (encs x)).foldl (fun t (p, v) => t.setIfInBounds p v) a.tmps), defers := [] } W') →
      assign.wpIn (F.inRound l) (n - 1 - 1) P (Exit.then L (fun _ _ _ => False)) { tmps := (ps.zip (encs x)).foldl (fun t (p, v) => t.setIfInBounds p v) a.tmps, defers := [] } W)
    (hbody : ∀ (l : Nat) (pre suf : List α) (x : α) (u : σ) (W : World), xs = pre ++ x :: suf → I pre W → Bx x u W → w.heap.size ≤ W.heap.size →
      body.wpIn (F.inRound l) (n - 1 - 1) P (fun e _ W' => e = .normal ∧ Stays K w.heap.size W W' ∧ I (pre ++ [x]) W') { tmps := put u ((ps.zip (encs x)).foldl (fun t (p, v) => t.setIfInBounds p v) a.tmps), defers := [] } W)
    (hdone : ∀ (D : Nat) (W : World), w.heap.size ≤ D → I xs W → W.heap[D]? = some (.deferred (some [])) → Q .normal { a with defers := { target := .collected D, args := #[] } :: a.defers } W) :
    (Code.rangeFunc g ps assign body).wpIn F n P Q a w := by
  refine wpIn_range_all hro h1 hg hFg eg hseq hb0 hK hps I hI h0
    (fun x a' W => ∃ u, Bx x u W ∧ a' = { tmps := put u ((ps.zip (encs x)).foldl (fun t (p, v) => t.setIfInBounds p v) a.tmps), defers := [] })
    (fun x a' W l o o' ⟨u, hu, ha⟩ hl ho => ⟨u, hBx x u W l o o' hu hl ho, ha⟩) ?_ ?_ hdone
  · intro l pre suf x W L hx hi hs hk
    exact hassign l pre suf x W L hx hi hs fun u W' h1 h2 h3 => hk _ _ h1 h2 ⟨u, h3, rfl⟩
  · rintro l pre suf x a' W hx hi ⟨u, hu, rfl⟩ hs
    exact hbody l pre suf x u W hx hi hu hs
end Go.Proofs.Ytikdkhiehfccpaa
