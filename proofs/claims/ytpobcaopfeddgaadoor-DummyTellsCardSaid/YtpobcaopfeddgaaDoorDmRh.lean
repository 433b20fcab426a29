/- The law for 'for c := range cards(m)' for what depends on more than the old blocks (own slices): only the iterator's box and the loop's two blocks change between rounds. -/
import Derived.Test.YtpobcaopfeddgaaDoorMDmt
namespace Go.Proofs.YtpobcaopfeddgaaDoor
open Go.RowKit Go.Shelf Go.Sort
attribute [local go_sem] Oper.semAt_some

/-- only blocks of S change, of those that are there -/
structure Only (S : Nat → Prop) (W W' : World) : Prop where
  os : W'.os = W.os
  tape : W'.tape = W.tape
  output : W'.output = W.output
  size : W.heap.size ≤ W'.heap.size
  same : ∀ k, k < W.heap.size → ¬ S k → W'.heap[k]? = W.heap[k]?
theorem Only.of_below {S : Nat → Prop} {W W' : World} (h : Below W.heap.size W W') : Only S W W' := ⟨h.os, h.tape, h.output, h.size, fun k hk _ => h.block k hk⟩
theorem Only.weak {S S' : Nat → Prop} {W W' : World} (h : Only S W W') (hs : ∀ k, S k → S' k) : Only S' W W' := ⟨h.os, h.tape, h.output, h.size, fun k hk hn => h.same k hk fun e => hn (hs k e)⟩
theorem Only.setCell (W : World) (b i : Nat) (v : Value) : Only (· = b) W (W.setCell ⟨b, i, none⟩ v) := ⟨rfl, rfl, rfl, by simp, fun k _ hk => Below.heap_setCell _ _ _ k hk⟩
theorem Only.putObj {S : Nat → Prop} {W : World} {l : Nat} {o : Obj} (hS : S l) (_ : W.heap[l]? = some o) (o' : Obj) : Only S W (W.putObj l o') := ⟨rfl, rfl, rfl, by simp [World.putObj], fun k _ hk => World.putObj_heap_other fun e => hk (e ▸ hS)⟩
theorem Only.but {S : Nat → Prop} {B Bx : Nat} {W W' : World} (h : Only S W W') (hB : B ≤ W.heap.size) (hs : ∀ k, k < B → S k → k = Bx) : But B Bx W W' := ⟨h.os, h.tape, h.output, h.size, fun k hk hn => h.same k (by omega) fun e => hn (hs k hk e)⟩
/-- the blocks of K lie as they lay -/
structure Keep (K : Nat → Prop) (W W' : World) : Prop where
  size : W.heap.size ≤ W'.heap.size
  same : ∀ k, K k → k < W.heap.size → W'.heap[k]? = W.heap[k]?
theorem Keep.refl (K : Nat → Prop) (W : World) : Keep K W W := ⟨Nat.le_refl _, fun _ _ _ => rfl⟩
theorem Keep.trans {K : Nat → Prop} {X Y Z : World} (h : Keep K X Y) (k : Keep K Y Z) : Keep K X Z :=
  ⟨Nat.le_trans h.size k.size, fun i hi hl => (k.same i hi (Nat.lt_of_lt_of_le hl h.size)).trans (h.same i hi hl)⟩
theorem Keep.weak {K K' : Nat → Prop} {W W' : World} (h : Keep K W W') (hk : ∀ k, K' k → K k) : Keep K' W W' := ⟨h.size, fun k h1 h2 => h.same k (hk k h1) h2⟩
theorem Keep.of_only {K S : Nat → Prop} {W W' : World} (h : Only S W W') (hk : ∀ k, K k → ¬ S k) : Keep K W W' := ⟨h.size, fun k h1 h2 => h.same k h2 (hk k h1)⟩
theorem Keep.putObj {K : Nat → Prop} {X Y : World} (h : Keep K X Y) {l : Nat} (hk : ¬ K l) (o : Obj) : Keep K X (Y.putObj l o) :=
  ⟨by simpa [World.putObj] using h.size, fun i hi hlt => (World.putObj_heap_other (fun e => by subst e; exact hk hi)).trans (h.same i hi hlt)⟩
theorem cards1_only (n l Bm m : Nat) (hm : W64 m) (J : List (Fin 64) → World → Prop) (Jx : List (Fin 64) → Fin 64 → World → Prop) (W : World) (hBm : Row W Bm 22 #[.int .u64 (m : Int)]) (hJ : ∀ s A B, J s A → Only (· = Bm) A B → J s B) (hT : ∀ s W, J s W → Tab W)
    (hY : ∀ pre x suf W1, bitsList m = pre ++ x :: suf → J pre W1 → W.heap.size ≤ W1.heap.size → YieldAt Fence.wide (n - 1) Tryd.prog l #[.int .u8 (x.val : Int)] W1 fun e W' =>
      (e = .returned (.bool true) ∧ J (pre ++ [x]) W' ∧ Keep (· = Bm) W1 W') ∨ (e = .returned (.bool false) ∧ Jx pre x W'))
    (hJ0 : J [] W) :
    CallsIn Fence.wide n Tryd.prog 59 #[.func (.yield l) #[] #[], .pointer (some ⟨Bm, 0, none⟩)] W fun e W' => (∃ v, e = .returned v) ∧
      (J (bitsList m) W' ∨ (∃ pre x suf, bitsList m = pre ++ x :: suf ∧ Jx pre x W')) := by
  refine callsIn_of_wp Tryd.func59 rfl trivial ?_ rfl
  simp only [Tryd.ntmps59, List.size_toArray, List.length_cons, List.length_nil, Nat.reduceAdd, Nat.reduceSub, Array.replicate_succ, Array.replicate_zero, List.push_toArray, List.append_toArray, List.nil_append, List.cons_append]
  have HY := Lib.hid hY
  have HT := Lib.hid hT
  have HJ := Lib.hid hJ
  clear hY hT hJ
  gi_wp2
  gi_loopw [] (fun wr => ∃ (pre : List (Fin 64)) (x : Nat), W64 x ∧ bitsList m = pre ++ bitsList x ∧ J pre wr ∧ Row wr Bm 22 #[.int .u64 (x : Int)] ∧ W.heap.size ≤ wr.heap.size)
    (fun wr => match wr.cell? ⟨Bm, 0, none⟩ with | some v => (intOf v).toNat | none => 0)
  case atStart => exact ⟨[], m, hm, rfl, hJ0, hBm, Nat.le_refl _⟩
  case round =>
    clear hBm
    obtain ⟨pre, x, hx, hbl, hJs, hR, hsz⟩ := hrel
    have HB := Lib.hid hbl
    have c0 := hR.cell 0
    simp only [List.getElem?_toArray, List.getElem?_cons_zero] at c0
    have HS := Lib.hid hsz
    clear hbl hsz
    by_cases hx0 : x = 0
    · subst hx0
      gi_wp2
      go_end0
      exact ⟨⟨_, rfl⟩, .inl (by rw [HB.out, bitsList_zero, List.append_nil]; exact hJs)⟩
    · have hx0' : ((x : Int) != 0) = true := by rw [bne_iff_ne]; omega
      obtain ⟨hk, hcons⟩ := bitsList_cons x hx0 hx
      have HC := Lib.hid hcons
      clear hcons
      obtain ⟨fn, tmps, assign, body, hy, hRd⟩ := HY.out pre ⟨Lib.ctz 64 x, hk⟩ (bitsList (drop1 x)) wr (by rw [HB.out, HC.out]) hJs HS.out
      have hz := bits_tz x hx hx0 wr (HT.out _ _ hJs)
      generalize Lib.ctz 64 x = c at *
      dsimp only at hy
      have HR := Lib.hid hR
      clear hR
      gi_wp2_with (gi_at_call 60; refine (callsIn_wide.2 hz).mono ?_; rintro e w' ⟨rfl, rfl⟩)
      refine hRd.mono ?_
      rintro e W3 (⟨rfl, hJ3, hS3⟩ | ⟨rfl, hJx3⟩)
      · have hR3 : Row W3 Bm 22 #[.int .u64 (x : Int)] := HR.out.same (hS3.same Bm rfl HR.out.lt)
        have hsz3 : W.heap.size ≤ W3.heap.size := Nat.le_trans HS.out hS3.size
        have hdr : bits BinOp.and IntKind.u64 (x : Int) (IntKind.u64.wrap ((x : Int) - 1)) = ((drop1 x : Nat) : Int) := by
          have e : IntKind.u64.wrap ((x : Int) - 1) = ((x - 1 : Nat) : Int) := by
            unfold W64 at hx; rw [IntKind.wrap_u64]; omega
          rw [e, bits_and_nat x _ hx (by unfold W64 at *; omega)]; rfl
        have d0 := hR3.cell 0
        simp only [List.getElem?_toArray, List.getElem?_cons_zero] at d0
        have hf := hR3.frozen 0
        have hR4 : Row (W3.setCell ⟨Bm, 0, none⟩ (.int .u64 ((drop1 x : Nat) : Int))) Bm 22 #[.int .u64 ((drop1 x : Nat) : Int)] := hR3.set 0 _
        have hJ4 := HJ.out _ _ _ hJ3 (Only.setCell W3 Bm 0 (.int .u64 ((drop1 x : Nat) : Int)))
        have hlt := drop1_lt x hx0
        have HD := Lib.hid (And.intro hR4 hJ4)
        have HE := Lib.hid hsz3
        have c0' := c0
        clear hR4 hJ4 hS3 hsz3 hR3 hJ3 hJs
        gi_wp2
        go_roundw
        case rel => exact ⟨pre ++ [⟨c, hk⟩], drop1 x, Nat.lt_of_lt_of_le hlt (Nat.le_of_lt hx), by rw [HB.out, HC.out]; simp, HD.out.2, HD.out.1, by simpa using HE.out⟩
        case measure =>
          have e4 := HD.out.1.cell 0
          simp only [List.getElem?_toArray, List.getElem?_cons_zero] at e4
          rw [e4, c0']
          simpa [intOf] using hlt
      · gi_wp2
        refine bodyPost_ret (results_none rfl _ _ _) rfl ?_
        exact ⟨⟨_, rfl⟩, .inr ⟨pre, ⟨c, hk⟩, bitsList (drop1 x), by rw [HB.out, HC.out], hJx3⟩⟩

theorem range_dmO {n p q id ty : Nat} {ps : String} {body : Code} {g : Operand} {Q : Exit → Act → World → Prop} {a : Act} {w : World} (Bm m : Nat) (h1 : 1 ≤ n)
    (hg : a.eval g = .func (.func 59) #[] #[.pointer (some ⟨Bm, 0, none⟩)]) (hp : p < a.tmps.size) (hm : W64 m) (hR : Row w Bm 22 #[.int .u64 (m : Int)])
    (I : List (Fin 64) → World → Prop) (Ix : Code → List (Fin 64) → Fin 64 → World → Prop) (hI : ∀ s A B, I s A → Only (fun k => k = Bm ∨ k = w.heap.size ∨ k = w.heap.size + 1) A B → I s B) (hIx : ∀ c pre x W W', Ix c pre x W → Only (fun k => k = Bm ∨ k = w.heap.size ∨ k = w.heap.size + 1) W W' → Ix c pre x W') (hT : ∀ s W, I s W → Tab W) (h0 : I [] w)
    (hbody : ∀ (l : Nat) (pre suf : List (Fin 64)) (x : Fin 64) (W : World), bitsList m = pre ++ x :: suf → I pre W → w.heap.size + 2 ≤ W.heap.size →
      body.wpIn (Fence.wide.inRound l) (n - 1 - 1) Tryd.prog (fun e _ W' => (e = .normal ∧ Keep (fun k => k = Bm ∨ k = w.heap.size ∨ k = w.heap.size + 1) W W' ∧ I (pre ++ [x]) W') ∨ (∃ i, e = .exit i ∧ Keep (fun k => k = w.heap.size ∨ k = w.heap.size + 1) W W' ∧ Ix (.exit i) pre x W')) (inFrame a p q x) W)
    (hdone : ∀ (D : Nat) (W : World), D = w.heap.size → I (bitsList m) W → W.heap[D]? = some (.deferred (some [])) → Q .normal { a with defers := { target := .collected D, args := #[] } :: a.defers } W)
    (hstop : ∀ (D : Nat) (c : Code) (pre suf : List (Fin 64)) (x : Fin 64) (W : World), D = w.heap.size → bitsList m = pre ++ x :: suf → Ix c pre x W → W.heap[D]? = some (.deferred (some [])) → c.wpIn Fence.wide n Tryd.prog Q { a with defers := { target := .collected D, args := #[] } :: a.defers } W) :
    (Code.rangeFunc g #[p] (Code.region id #[{ dst := some q, op := .assign (.tmp p), type := ty, pos := ps, after := #[], guard := none }] false) body).wpIn Fence.wide n Tryd.prog Q a w := by
  refine wpIn_rangeFunc ?_
  intro fn hfn
  rw [show Fence.wide.round = none from rfl]
  have hBl : Bm < w.heap.size := hR.lt
  obtain ⟨asg, hasg⟩ : ∃ c, c = Code.region id #[{ dst := some q, op := .assign (.tmp p), type := ty, pos := ps, after := #[], guard := none }] false := ⟨_, rfl⟩
  obtain ⟨rec, hrec⟩ : ∃ rec : LoopState → Option Code → Loop, rec = fun st pe => { state := st, pending := pe, fn, tmps := a.tmps, params := #[p], assign := asg, body, defers := w.heap.size } := ⟨_, rfl⟩
  obtain ⟨W1, hW1⟩ : ∃ W1, (w.alloc (.deferred (some []))).alloc (.loop (rec .ready none)) = W1 := ⟨_, rfl⟩
  have hs1 : W1.heap.size = w.heap.size + 2 := by rw [← hW1]; simp
  have hL1 : W1.heap[w.heap.size + 1]? = some (.loop (rec .ready none)) := by
    rw [← hW1]; have := World.alloc_heap_new (w.alloc (.deferred (some []))) (.loop (rec .ready none)); rwa [World.size_alloc] at this
  have hK1 : W1.heap[w.heap.size]? = some (.deferred (some [])) := by
    rw [← hW1]; exact (Below.heap_alloc _ _ _ (by simp)).trans (World.alloc_heap_new w _)
  have hbW : Below w.heap.size w W1 := by rw [← hW1]; exact ((Below.refl _ w).alloc (Nat.le_refl _) _).alloc (by simp) _
  have hR1 : Row W1 Bm 22 #[.int .u64 (m : Int)] := hR.below hBl hbW
  have hI1 : I [] W1 := hI _ _ _ h0 (Only.of_below hbW)
  rw [← hasg]
  refine ⟨w.heap.size + 1, [{ target := .collected w.heap.size, args := #[] }], W1, { target := .fn (.func 59) #[.pointer (some ⟨Bm, 0, none⟩)], args := #[.func (.yield (w.heap.size + 1)) #[] #[]] }, W1, 59,
    #[.func (.yield (w.heap.size + 1)) #[] #[]] ++ #[.pointer (some ⟨Bm, 0, none⟩)], W1, ?_, ?_, ?_, ?_, fun _ => h1, ?_⟩
  · rw [← hW1, hrec]; exact run_enterLoop_outer _ _ _ _ _
  · simp only [resolve, hg]
    simp [go_sem]
  · intro f' hf'; simp [Target.leads] at hf'; subst hf'; trivial
  · simp [invoke, go_sem]
  · refine (cards1_only (n - 1) (w.heap.size + 1) Bm m hm
      (fun pre W => I pre W ∧ W.heap[w.heap.size + 1]? = some (.loop (rec .ready none)) ∧ W.heap[w.heap.size]? = some (.deferred (some [])))
      (fun pre x W => ∃ c, Ix c pre x W ∧ W.heap[w.heap.size + 1]? = some (.loop (rec .done (some c))) ∧ W.heap[w.heap.size]? = some (.deferred (some [])))
      W1 hR1
      (fun s A B hs hb => ⟨hI _ _ _ hs.1 (hb.weak fun k hk => .inl hk), (hb.same _ (Array.getElem?_eq_some_iff.1 hs.2.1).1 (by show ¬ (_ = Bm); omega)).trans hs.2.1, (hb.same _ (Array.getElem?_eq_some_iff.1 hs.2.2).1 (by show ¬ (_ = Bm); omega)).trans hs.2.2⟩)
      (fun s A hs => hT s A hs.1) ?_ ⟨hI1, hL1, hK1⟩).mono ?_
    · rintro pre x suf W hx ⟨hi, hl, hk⟩ hsz
      have hy := run_yield (P := Tryd.prog) (args := #[.int .u8 (x.val : Int)]) hl (by rw [hrec]; rfl)
      rw [hrec] at hy
      have hlt : w.heap.size + 1 < W.heap.size := (Array.getElem?_eq_some_iff.1 hl).1
      refine ⟨fn, _, asg, body, hy, roundIn_of_wpIn hfn ?_⟩
      clear hy
      have hasgn : ∀ (K : Act → World → Prop), K (inFrame a p q x) W → asg.wpIn (Fence.wide.inRound (w.heap.size + 1)) (n - 1 - 1) Tryd.prog (Exit.then K (fun _ _ _ => False)) { tmps := ((#[p] : Array Tmp).zip #[Value.int .u8 (x.val : Int)]).foldl (fun t (p, v) => t.setIfInBounds p v) a.tmps, defers := [] } W := by
        intro K hK
        rw [hasg]
        refine wpIn_region_lit ?_
        simp only [List.zip_toArray, List.zip_cons_cons, List.zip_nil_left]
        simp [wpListIn, Oper.wpIn, go_sem, Oper.about, Oper.uponIn, execOp, Act.eval, Act.put, Exit.then]
        rw [if_pos hp]
        exact hK
      refine hasgn _ ⟨_, run_beginRound hl (by rw [hrec]), ?_⟩
      have hl2 : (W.putObj (w.heap.size + 1) (.loop { rec .ready none with state := .busy })).heap[w.heap.size + 1]? = some (.loop { rec .ready none with state := .busy }) := World.putObj_heap_same hlt
      have hk2 : (W.putObj (w.heap.size + 1) (.loop { rec .ready none with state := .busy })).heap[w.heap.size]? = some (.deferred (some [])) := (World.putObj_heap_other (by omega)).trans hk
      have hi2 := hI _ _ _ hi (Only.putObj (by simp) hl (.loop { rec .ready none with state := .busy }))
      refine wpIn_mono (hbody _ pre suf x _ hx hi2 (by simp [World.putObj]; omega)) ?_
      have hnK : ¬ (w.heap.size + 1 = Bm) := by omega
      have fin : ∀ (jump : Option Code) (W3 : World), Keep (fun k => k = w.heap.size ∨ k = w.heap.size + 1) (W.putObj (w.heap.size + 1) (.loop { rec .ready none with state := .busy })) W3 →
          (Instr.endRound (w.heap.size + 1) jump).run Tryd.prog W3 = .ok (.bool jump.isNone) (W3.putObj (w.heap.size + 1) (.loop (rec (if jump.isNone then .ready else .done) jump))) ∧
          W3.heap[w.heap.size + 1]? = some (.loop { rec .ready none with state := .busy }) ∧
          (W3.putObj (w.heap.size + 1) (.loop (rec (if jump.isNone then .ready else .done) jump))).heap[w.heap.size + 1]? = some (.loop (rec (if jump.isNone then .ready else .done) jump)) ∧
          (W3.putObj (w.heap.size + 1) (.loop (rec (if jump.isNone then .ready else .done) jump))).heap[w.heap.size]? = some (.deferred (some [])) := fun jump W3 hk3 => by
        have hl3 := (hk3.same _ (.inr rfl) (Array.getElem?_eq_some_iff.1 hl2).1).trans hl2
        have := run_endRound (P := Tryd.prog) jump hl3
        rw [hrec] at this ⊢
        exact ⟨this, by rw [hrec] at hl3; exact hl3, World.putObj_heap_same (Array.getElem?_eq_some_iff.1 hl3).1, (World.putObj_heap_other (by omega)).trans ((hk3.same _ (.inl rfl) (Array.getElem?_eq_some_iff.1 hk2).1).trans hk2)⟩
      rintro e a3 W3 (⟨rfl, hs3, hi3⟩ | ⟨i, rfl, hs3, hi3⟩)
      · obtain ⟨hr, hl3, hl4, hk4⟩ := fin none W3 (hs3.weak fun k hk => .inr hk)
        have hs2 : Keep (· = Bm) W W3 := ((Keep.refl (· = Bm) W).putObj hnK (.loop { rec .ready none with state := .busy })).trans (hs3.weak fun k hk => .inl hk)
        exact ⟨_, _, hr, .inl ⟨rfl, ⟨hI _ _ _ hi3 (Only.putObj (by simp) hl3 _), hl4, hk4⟩, hs2.putObj hnK _⟩⟩
      · obtain ⟨hr, hl3, hl4, hk4⟩ := fin (some (.exit i)) W3 hs3
        exact ⟨_, _, hr, .inr ⟨rfl, .exit i, hIx _ _ _ _ _ hi3 (Only.putObj (by simp) hl3 _), hl4, hk4⟩⟩
    · rintro e W2 ⟨⟨v, rfl⟩, (⟨hi, hl, hk⟩ | ⟨pre, x, suf, hx, c, hi, hl, hk⟩)⟩
      · exact ⟨none, _, by have := run_endLoop (P := Tryd.prog) hl (by rw [hrec]; simp); rw [hrec] at this; exact this, hdone _ _ rfl (hI _ _ _ hi (Only.putObj (by simp) hl _)) ((World.putObj_heap_other (by omega)).trans hk)⟩
      · exact ⟨some c, _, by have := run_endLoop (P := Tryd.prog) hl (by rw [hrec]; simp); rw [hrec] at this; exact this, hstop _ _ _ _ _ _ rfl hx (hIx _ _ _ _ _ hi (Only.putObj (by simp) hl _)) ((World.putObj_heap_other (by omega)).trans hk)⟩
end Go.Proofs.YtpobcaopfeddgaaDoor
