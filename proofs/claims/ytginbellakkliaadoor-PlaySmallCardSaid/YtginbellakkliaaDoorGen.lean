/- A range over a function whose iterator keeps memory of its own: the iterator's blocks are a set G; the body leaves them alone, the iterator changes nothing else. No program in sight. -/
import Derived.RangeFuncNested
import Derived.RangeFuncCalls
import Derived.RangeFuncWrites
namespace Go.Proofs.YtginbellakkliaaDoor
open Go.RowKit

/-- from W to W' only blocks of G, and from B on blocks that are no cells, have changed; new ones may have been made -/
structure Moves (B : Nat) (G : Nat → Prop) (W W' : World) : Prop where
  base : Below 0 W W'
  block : ∀ k, k < W.heap.size → W'.heap[k]? = W.heap[k]? ∨ (B ≤ k ∧ (G k ∨ ∃ o, W.heap[k]? = some o ∧ o.isCells = false))
/-- an invariant that the iterator's moves leave -/
def StableG {β : Type} (B : Nat) (I : (Nat → Prop) → β → World → Prop) : Prop :=
  ∀ G G' s W W', I G s W → Moves B G W W' → (∀ b, G b → G' b) → (∀ b, G' b → G b ∨ W.heap.size ≤ b) → I G' s W'
/-- no block -/
def noG : Nat → Prop := fun _ => False

theorem Moves.alloc (B : Nat) (G : Nat → Prop) (W : World) (o : Obj) : Moves B G W (W.alloc o) :=
  ⟨(Below.refl _ W).alloc (Nat.zero_le _) _, fun k hk => .inl (Below.heap_alloc W o k hk)⟩
theorem Moves.drew {B : Nat} {G : Nat → Prop} {W W' : World} (h : Moves B G W W') : Moves B G W W'.drew := ⟨h.base.drew, h.block⟩
theorem putObj_below0 (W : World) (l : Nat) (o : Obj) : Below 0 W (W.putObj l o) := by
  have h := grownBy_putObj' W l o
  exact ⟨h.os, h.tape, h.output, h.size, fun _ hk => absurd hk (Nat.not_lt_zero _)⟩
theorem Moves.putObj {B : Nat} {G : Nat → Prop} {W : World} {l : Nat} {o : Obj} (o' : Obj) (hB : B ≤ l) (hl : W.heap[l]? = some o) (ho : o.isCells = false) : Moves B G W (W.putObj l o') :=
  ⟨putObj_below0 W l o', fun k _ => by
    by_cases e : k = l
    · subst e; exact .inr ⟨hB, .inr ⟨o, hl, ho⟩⟩
    · exact .inl (World.putObj_heap_other e)⟩
theorem Moves.setCell {B : Nat} {G : Nat → Prop} {W : World} {b i : Nat} (v : Value) (hB : B ≤ b) (hG : G b) : Moves B G W (W.setCell ⟨b, i, none⟩ v) :=
  ⟨(Below.refl _ W).setCell (Nat.zero_le _) _, fun k _ => by
    by_cases e : k = b
    · subst e; exact .inr ⟨hB, .inl hG⟩
    · refine .inl ?_
      unfold World.setCell
      rw [Array.getElem?_modify, if_neg (fun e' => e e'.symm)]⟩
theorem Moves.of_below {B : Nat} {G : Nat → Prop} {W W' : World} (h : Below W.heap.size W W') : Moves B G W W' :=
  ⟨⟨h.os, h.tape, h.output, h.size, fun _ hk => absurd hk (Nat.not_lt_zero _)⟩, fun k hk => .inl (h.block k hk)⟩
theorem StableG.same {β : Type} {B : Nat} {I : (Nat → Prop) → β → World → Prop} (h : StableG B I) {G : Nat → Prop} {s : β} {W W' : World} (hs : I G s W) (hm : Moves B G W W') : I G s W' :=
  h G G s W W' hs hm (fun _ h => h) (fun _ h => .inl h)

/-- from W to W' the blocks of S have not changed -/
structure Kept (S : Nat → Prop) (W W' : World) : Prop where
  os : W'.os = W.os
  tape : W'.tape = W.tape
  output : W'.output = W.output
  size : W.heap.size ≤ W'.heap.size
  block : ∀ k, S k → k < W.heap.size → W'.heap[k]? = W.heap[k]?
theorem Kept.refl (S : Nat → Prop) (W : World) : Kept S W W := ⟨rfl, rfl, rfl, Nat.le_refl _, fun _ _ _ => rfl⟩
theorem Kept.trans {S : Nat → Prop} {A B C : World} (h : Kept S A B) (k : Kept S B C) : Kept S A C :=
  ⟨k.os.trans h.os, k.tape.trans h.tape, k.output.trans h.output, Nat.le_trans h.size k.size, fun i hi hl => (k.block i hi (Nat.lt_of_lt_of_le hl h.size)).trans (h.block i hi hl)⟩
theorem Kept.drew {S : Nat → Prop} {A B : World} (h : Kept S A B) : Kept S A B.drew := ⟨h.os, h.tape, h.output, h.size, h.block⟩
theorem Kept.of_below {S : Nat → Prop} {A B : World} (h : Below A.heap.size A B) : Kept S A B := ⟨h.os, h.tape, h.output, h.size, fun k _ hl => h.block k hl⟩
theorem Kept.alloc {S : Nat → Prop} {A B : World} (h : Kept S A B) (o : Obj) : Kept S A (B.alloc o) := h.trans (Kept.of_below ((Below.refl _ _).alloc (Nat.le_refl _) _))
theorem Kept.setCell {S : Nat → Prop} {A B : World} (h : Kept S A B) {p : Addr} (hp : ¬ S p.block) (u : Value) : Kept S A (B.setCell p u) :=
  ⟨h.os, h.tape, h.output, by simpa [World.setCell] using h.size, fun i hi hl => (Below.heap_setCell B p u i (fun e => hp (e ▸ hi))).trans (h.block i hi hl)⟩
theorem Kept.cell {S : Nat → Prop} {A B : World} (h : Kept S A B) {p : Addr} (hp : S p.block) (hl : p.block < A.heap.size) : B.cell? p = A.cell? p := by
  simp only [World.cell?, h.block _ hp hl]
theorem Kept.base {S : Nat → Prop} {A B : World} (h : Kept S A B) : Below 0 A B := ⟨h.os, h.tape, h.output, h.size, fun _ hk => absurd hk (Nat.not_lt_zero _)⟩
theorem Kept.mono {S S' : Nat → Prop} {A B : World} (h : Kept S A B) (hs : ∀ b, S' b → S b) : Kept S' A B := ⟨h.os, h.tape, h.output, h.size, fun i hi => h.block i (hs i hi)⟩

variable {F : Fence} {n : Nat} {P : Program}

/-- the contract of an iterator that gives L, in this order, if no round says 'no more' -/
def SeqG {α : Type} (F : Fence) (n : Nat) (P : Program) (g : Nat) (lb : Array Value) (encs : α → Array Value) (S : Nat → Prop) (L : List α) (w : World) : Prop :=
  ∀ (l : Nat) (J : (Nat → Prop) → List α → World → Prop) (W : World), Below w.heap.size w W → StableG W.heap.size J →
    (∀ G pre x W1, J G pre W1 → (∀ b, G b → b < W1.heap.size ∧ W.heap.size ≤ b) → (pre ++ [x]) <+: L → YieldAt F (n - 1) P l (encs x) W1 fun e W' =>
      e = .returned (.bool true) ∧ J G (pre ++ [x]) W' ∧ (∀ b, G b → W'.heap[b]? = W1.heap[b]?) ∧ Kept S W1 W') →
    J noG [] W →
    CallsIn F n P g (#[.func (.yield l) #[] #[]] ++ lb) W fun e W' => (∃ v, e = .returned v) ∧ ∃ G, J G L W'

/-- how a body's round ends -/
def gPost {α : Type} (B : Nat) (S : Nat → Prop) (G : Nat → Prop) (I : (Nat → Prop) → List α → World → Prop) (xs : List α) (W : World) : Exit → Act → World → Prop
  | .normal, _, W' => KeepsFrom B W W' ∧ (∀ b, G b → W'.heap[b]? = W.heap[b]?) ∧ Kept S W W' ∧ I G xs W'
  | _, _, _ => False

theorem wpIn_rangeFunc_G {α : Type} {g : Operand} {ps : Array Tmp} {assign body : Code} {Q : Exit → Act → World → Prop} {a : Act} {w : World}
    (hro : F.round = none) (h1 : 1 ≤ n) {gf : Nat} {lb : Array Value} (hg : a.eval g = .func (.func gf) #[] lb) (hFg : F.fn gf) (eg : ∀ args w, (callFunc gf args).run P w = .ok (.enter gf args) w)
    {encs : α → Array Value} {S : Nat → Prop} {L : List α} {w0 : World} (hseq : SeqG F (n - 1) P gf lb encs S L w0) (hb0 : Below w0.heap.size w0 w) (hS : ∀ b, S b → b < w.heap.size) (hps : ∀ x, (encs x).size = ps.size)
    (I : (Nat → Prop) → List α → World → Prop) (hI : StableG w.heap.size I) (h0 : I noG [] w) (As : α → World → Act → Prop)
    (hassign : ∀ (l : Nat) (x : α) (W : World) (K : Act → World → Prop), w.heap.size ≤ W.heap.size → (∀ a' W', Below W.heap.size W W' → (∀ l o o', w.heap.size ≤ l → W'.heap[l]? = some o → o.isCells = false → As x (W'.putObj l o') a') → K a' W') →
      assign.wpIn (F.inRound l) (n - 1 - 1) P (Exit.then K (fun _ _ _ => False)) { tmps := (ps.zip (encs x)).foldl (fun t (p, v) => t.setIfInBounds p v) a.tmps, defers := [] } W)
    (hbody : ∀ (l : Nat) (G : Nat → Prop) (pre : List α) (x : α) (a' : Act) (W : World), I G pre W → As x W a' → (∀ b, G b → b < W.heap.size ∧ w.heap.size ≤ b) → w.heap.size ≤ W.heap.size → (pre ++ [x]) <+: L → body.wpIn (F.inRound l) (n - 1 - 1) P (gPost w.heap.size S G I (pre ++ [x]) W) a' W)
    (hdone : ∀ (D : Nat) (G : Nat → Prop) (W : World), w.heap.size ≤ D → I G L W → W.heap[D]? = some (.deferred (some [])) → Q .normal { a with defers := { target := .collected D, args := #[] } :: a.defers } W) :
    (Code.rangeFunc g ps assign body).wpIn F n P Q a w := by
  refine wpIn_rangeFunc ?_
  intro fn hfn
  rw [hro]
  obtain ⟨rec, hrec⟩ : ∃ rec : LoopState → Option Code → Loop, rec = fun st pe => { state := st, pending := pe, fn, tmps := a.tmps, params := ps, assign, body, defers := w.heap.size } := ⟨_, rfl⟩
  obtain ⟨W1, hW1⟩ : ∃ W1, (w.alloc (.deferred (some []))).alloc (.loop (rec .ready none)) = W1 := ⟨_, rfl⟩
  have hsz : W1.heap.size = w.heap.size + 2 := by rw [← hW1]; simp
  have hL1 : W1.heap[w.heap.size + 1]? = some (.loop (rec .ready none)) := by
    rw [← hW1]; have := World.alloc_heap_new (w.alloc (.deferred (some []))) (.loop (rec .ready none)); rwa [World.size_alloc] at this
  have hK1 : W1.heap[w.heap.size]? = some (.deferred (some [])) := by
    rw [← hW1]; exact (Below.heap_alloc _ _ _ (by simp)).trans (World.alloc_heap_new w _)
  have hI1 : I noG [] W1 := by rw [← hW1]; exact hI.same (hI.same h0 (Moves.alloc _ _ _ _)) (Moves.alloc _ _ _ _)
  have hb1 : Below w0.heap.size w0 W1 := by
    rw [← hW1]; exact hb0.trans ((((Below.refl _ w).alloc (Nat.le_refl _) _).alloc (by simp) _).mono hb0.size)
  refine ⟨w.heap.size + 1, [{ target := .collected w.heap.size, args := #[] }], W1, { target := .fn (.func gf) lb, args := #[.func (.yield (w.heap.size + 1)) #[] #[]] }, W1, gf,
    #[.func (.yield (w.heap.size + 1)) #[] #[]] ++ lb, W1, ?_, ?_, ?_, ?_, fun _ => h1, ?_⟩
  · rw [← hW1, hrec]; exact run_enterLoop_outer _ _ _ _ _
  · simp only [resolve, hg]
    simp [go_sem]
  · intro f' hf'; simp [Target.leads] at hf'; subst hf'; exact hFg
  · simp [invoke, go_sem, eg]
  · refine (hseq (w.heap.size + 1)
      (fun G pre W => I G pre W ∧ W.heap[w.heap.size + 1]? = some (.loop (rec .ready none)) ∧ W.heap[w.heap.size]? = some (.deferred (some [])) ∧ (∀ b, G b → w.heap.size + 2 ≤ b))
      W1 hb1 ?_ ?_ ⟨hI1, hL1, hK1, fun _ h => h.elim⟩).mono ?_
    · rintro G G' s A B ⟨hi, hl, hk, hG⟩ hm hGG hGN
      have hA : w.heap.size + 1 < A.heap.size := (Array.getElem?_eq_some_iff.1 hl).1
      have keep : ∀ k, k < w.heap.size + 2 → B.heap[k]? = A.heap[k]? := fun k hk' => by
        rcases hm.block k (by omega) with h | ⟨h, _⟩
        · exact h
        · omega
      refine ⟨hI G G' s A B hi ⟨hm.base, fun k hk' => ?_⟩ hGG hGN, (keep _ (by omega)).trans hl, (keep _ (by omega)).trans hk, fun b hb => ?_⟩
      · rcases hm.block k hk' with h | ⟨h, h'⟩
        · exact .inl h
        · exact .inr ⟨by omega, h'⟩
      · rcases hGN b hb with h | h
        · exact hG b h
        · omega
    · rintro G pre x W0 ⟨hi0, hl0, hk0, hG⟩ hG20 hpre
      have hy := run_yield (P := P) (args := encs x) hl0 (by rw [hrec]; exact hps x)
      rw [hrec] at hy
      refine ⟨fn, _, assign, body, hy, roundIn_of_wpIn hfn (hassign _ x W0 _ (by have := (Array.getElem?_eq_some_iff.1 hl0).1; omega) fun a1 W hbW hAs => ?_)⟩
      have hl : W.heap[w.heap.size + 1]? = some (.loop (rec .ready none)) := (hbW.block _ (Array.getElem?_eq_some_iff.1 hl0).1).trans hl0
      have hk : W.heap[w.heap.size]? = some (.deferred (some [])) := (hbW.block _ (Array.getElem?_eq_some_iff.1 hk0).1).trans hk0
      have hi : I G pre W := hI.same hi0 (Moves.of_below hbW)
      have hG2 : ∀ b, G b → b < W.heap.size ∧ W1.heap.size ≤ b := fun b hb => ⟨Nat.lt_of_lt_of_le (hG20 b hb).1 hbW.size, (hG20 b hb).2⟩
      refine ⟨_, run_beginRound hl (by rw [hrec]), ?_⟩
      have hlt : w.heap.size + 1 < W.heap.size := (Array.getElem?_eq_some_iff.1 hl).1
      have hl2 : (W.putObj (w.heap.size + 1) (.loop { rec .ready none with state := .busy })).heap[w.heap.size + 1]? = some (.loop { rec .ready none with state := .busy }) := World.putObj_heap_same hlt
      have hk2 : (W.putObj (w.heap.size + 1) (.loop { rec .ready none with state := .busy })).heap[w.heap.size]? = some (.deferred (some [])) := (World.putObj_heap_other (by omega)).trans hk
      have hsz2 : (W.putObj (w.heap.size + 1) (.loop { rec .ready none with state := .busy })).heap.size = W.heap.size := by simp [World.putObj]
      refine wpIn_mono (hbody _ G pre x a1 _ (hI.same hi (Moves.putObj _ (by omega) hl rfl)) (hAs _ _ _ (by omega) hl rfl) (fun b hb => ⟨by rw [hsz2]; exact (hG2 b hb).1, by have := hG b hb; omega⟩) (by rw [hsz2]; omega) hpre) ?_
      rintro e a3 W3 hp
      cases e with
      | normal =>
        obtain ⟨hk3, hg3, hb3, hi3⟩ := hp
        have hl3 := hk3.same _ _ (by omega) hl2 rfl
        have hr := run_endRound (P := P) none hl3
        rw [hrec] at hr hl3 ⊢
        have hlt3 := (Array.getElem?_eq_some_iff.1 hl3).1
        refine ⟨_, _, hr, rfl, ⟨hI.same hi3 (Moves.putObj _ (by omega) hl3 rfl), World.putObj_heap_same hlt3, (World.putObj_heap_other (by omega)).trans (hk3.same _ _ (Nat.le_refl _) hk2 rfl), hG⟩, fun b hb => ?_, ?_⟩
        · have hne : b ≠ w.heap.size + 1 := by have := hG b hb; omega
          exact (World.putObj_heap_other hne).trans ((hg3 b hb).trans ((World.putObj_heap_other hne).trans (hbW.block b (hG20 b hb).1)))
        · have k1 : Kept S W (W.putObj (w.heap.size + 1) (.loop { rec .ready none with state := .busy })) := ⟨rfl, rfl, rfl, by rw [hsz2]; exact Nat.le_refl _, fun k hk' _ => World.putObj_heap_other (by have := hS k hk'; omega)⟩
          exact ((Kept.of_below hbW).trans (k1.trans hb3)).trans ⟨rfl, rfl, rfl, by simp [World.putObj], fun k hk' _ => World.putObj_heap_other (by have := hS k hk'; omega)⟩
      | ret => exact hp.elim
      | exit id => exact hp.elim
      | goto t => exact hp.elim
      | panic ch => exact hp.elim
      | outgrown => exact hp.elim
    · rintro e W2 ⟨⟨v, rfl⟩, G, hi, hl, hk, hG⟩
      exact ⟨none, _, by have := run_endLoop (P := P) hl (by rw [hrec]; simp); rw [hrec] at this; exact this, hdone _ G _ (Nat.le_refl _) (hI.same hi (Moves.putObj _ (by omega) hl rfl)) ((World.putObj_heap_other (by omega)).trans hk)⟩
end Go.Proofs.YtginbellakkliaaDoor
