/- DmRh, Apl, DmPi in one text. -/
import Derived.Test.YtnbillhodbcfbaaDoorMDmt
import Derived.Test.YtnbillhodbcfbaaDoorProg
import Derived.Test.YtnbillhodbcfbaaDoorMLow
import Derived.Laws.AppendOwnNone
import Derived.ArgAppend
import Derived.Test.YtnbillhodbcfbaaDoorMDtb

/- The law for 'for c := range cards(m)' for what depends on more than the old blocks (own slices): only the iterator's box and the loop's two blocks change between rounds. -/
namespace Go.Proofs.YtnbillhodbcfbaaDoor
open Go.RowKit Go.Shelf Go.Sort
attribute [local go_sem] Oper.semAt_some

/-- only blocks of S change, of those that are there -/
structure Only (S : Nat → Prop) (W W' : World) : Prop where
  os : W'.os = W.os
  tape : W'.tape = W.tape
  output : W'.output = W.output
  size : W.heap.size ≤ W'.heap.size
  same : ∀ k, k < W.heap.size → ¬ S k → W'.heap[k]? = W.heap[k]?
theorem Only.of_below {S : Nat → Prop} {W W' : World} (h : Below W.heap.size W W') : Only S W W' := ⟨h.os, h.tape, h.output, h.size, fun k hk _ => h.block k hk⟩
theorem Only.weak {S S' : Nat → Prop} {W W' : World} (h : Only S W W') (hs : ∀ k, S k → S' k) : Only S' W W' := ⟨h.os, h.tape, h.output, h.size, fun k hk hn => h.same k hk fun e => hn (hs k e)⟩
theorem Only.setCell (W : World) (b i : Nat) (v : Value) : Only (· = b) W (W.setCell ⟨b, i, none⟩ v) := ⟨rfl, rfl, rfl, by simp, fun k _ hk => Below.heap_setCell _ _ _ k hk⟩
theorem Only.putObj {S : Nat → Prop} {W : World} {l : Nat} {o : Obj} (hS : S l) (_ : W.heap[l]? = some o) (o' : Obj) : Only S W (W.putObj l o') := ⟨rfl, rfl, rfl, by simp [World.putObj], fun k _ hk => World.putObj_heap_other fun e => hk (e ▸ hS)⟩
theorem Only.but {S : Nat → Prop} {B Bx : Nat} {W W' : World} (h : Only S W W') (hB : B ≤ W.heap.size) (hs : ∀ k, k < B → S k → k = Bx) : But B Bx W W' := ⟨h.os, h.tape, h.output, h.size, fun k hk hn => h.same k (by omega) fun e => hn (hs k hk e)⟩
/-- the blocks of K lie as they lay -/
structure Keep (K : Nat → Prop) (W W' : World) : Prop where
  size : W.heap.size ≤ W'.heap.size
  same : ∀ k, K k → k < W.heap.size → W'.heap[k]? = W.heap[k]?
theorem Keep.refl (K : Nat → Prop) (W : World) : Keep K W W := ⟨Nat.le_refl _, fun _ _ _ => rfl⟩
theorem Keep.trans {K : Nat → Prop} {X Y Z : World} (h : Keep K X Y) (k : Keep K Y Z) : Keep K X Z :=
  ⟨Nat.le_trans h.size k.size, fun i hi hl => (k.same i hi (Nat.lt_of_lt_of_le hl h.size)).trans (h.same i hi hl)⟩
theorem Keep.weak {K K' : Nat → Prop} {W W' : World} (h : Keep K W W') (hk : ∀ k, K' k → K k) : Keep K' W W' := ⟨h.size, fun k h1 h2 => h.same k (hk k h1) h2⟩
theorem Keep.of_only {K S : Nat → Prop} {W W' : World} (h : Only S W W') (hk : ∀ k, K k → ¬ S k) : Keep K W W' := ⟨h.size, fun k h1 h2 => h.same k h2 (hk k h1)⟩
theorem Keep.putObj {K : Nat → Prop} {X Y : World} (h : Keep K X Y) {l : Nat} (hk : ¬ K l) (o : Obj) : Keep K X (Y.putObj l o) :=
  ⟨by simpa [World.putObj] using h.size, fun i hi hlt => (World.putObj_heap_other (fun e => by subst e; exact hk hi)).trans (h.same i hi hlt)⟩
theorem cards1_only (n l Bm m : Nat) (hm : W64 m) (J : List (Fin 64) → World → Prop) (Jx : List (Fin 64) → Fin 64 → World → Prop) (W : World) (hBm : Row W Bm 22 #[.int .u64 (m : Int)]) (hJ : ∀ s A B, J s A → Only (· = Bm) A B → J s B) (hT : ∀ s W, J s W → Tab W)
    (hY : ∀ pre x suf W1, bitsList m = pre ++ x :: suf → J pre W1 → W.heap.size ≤ W1.heap.size → YieldAt Fence.wide (n - 1) Tryd.prog l #[.int .u8 (x.val : Int)] W1 fun e W' =>
      (e = .returned (.bool true) ∧ J (pre ++ [x]) W' ∧ Keep (· = Bm) W1 W') ∨ (e = .returned (.bool false) ∧ Jx pre x W'))
    (hJ0 : J [] W) :
    CallsIn Fence.wide n Tryd.prog 81 #[.func (.yield l) #[] #[], .pointer (some ⟨Bm, 0, none⟩)] W fun e W' => (∃ v, e = .returned v) ∧
      (J (bitsList m) W' ∨ (∃ pre x suf, bitsList m = pre ++ x :: suf ∧ Jx pre x W')) := by
  refine callsIn_of_wp Tryd.func81 rfl trivial ?_ rfl
  simp only [Tryd.ntmps81, List.size_toArray, List.length_cons, List.length_nil, Nat.reduceAdd, Nat.reduceSub, Array.replicate_succ, Array.replicate_zero, List.push_toArray, List.append_toArray, List.nil_append, List.cons_append]
  have HY := Lib.hid hY
  have HT := Lib.hid hT
  have HJ := Lib.hid hJ
  clear hY hT hJ
  gi_wp2
  gi_loopw [] (fun wr => ∃ (pre : List (Fin 64)) (x : Nat), W64 x ∧ bitsList m = pre ++ bitsList x ∧ J pre wr ∧ Row wr Bm 22 #[.int .u64 (x : Int)] ∧ W.heap.size ≤ wr.heap.size)
    (fun wr => match wr.cell? ⟨Bm, 0, none⟩ with | some v => (intOf v).toNat | none => 0)
  case atStart => exact ⟨[], m, hm, rfl, hJ0, hBm, Nat.le_refl _⟩
  case round =>
    clear hBm
    obtain ⟨pre, x, hx, hbl, hJs, hR, hsz⟩ := hrel
    have HB := Lib.hid hbl
    have c0 := hR.cell 0
    simp only [List.getElem?_toArray, List.getElem?_cons_zero] at c0
    have HS := Lib.hid hsz
    clear hbl hsz
    by_cases hx0 : x = 0
    · subst hx0
      gi_wp2
      go_end0
      exact ⟨⟨_, rfl⟩, .inl (by rw [HB.out, bitsList_zero, List.append_nil]; exact hJs)⟩
    · have hx0' : ((x : Int) != 0) = true := by rw [bne_iff_ne]; omega
      obtain ⟨hk, hcons⟩ := bitsList_cons x hx0 hx
      have HC := Lib.hid hcons
      clear hcons
      obtain ⟨fn, tmps, assign, body, hy, hRd⟩ := HY.out pre ⟨Lib.ctz 64 x, hk⟩ (bitsList (drop1 x)) wr (by rw [HB.out, HC.out]) hJs HS.out
      have hz := bits_tz x hx hx0 wr (HT.out _ _ hJs)
      generalize Lib.ctz 64 x = c at *
      dsimp only at hy
      have HR := Lib.hid hR
      clear hR
      gi_wp2_with (gi_at_call 73; refine (callsIn_wide.2 hz).mono ?_; rintro e w' ⟨rfl, rfl⟩)
      refine hRd.mono ?_
      rintro e W3 (⟨rfl, hJ3, hS3⟩ | ⟨rfl, hJx3⟩)
      · have hR3 : Row W3 Bm 22 #[.int .u64 (x : Int)] := HR.out.same (hS3.same Bm rfl HR.out.lt)
        have hsz3 : W.heap.size ≤ W3.heap.size := Nat.le_trans HS.out hS3.size
        have hdr : bits BinOp.and IntKind.u64 (x : Int) (IntKind.u64.wrap ((x : Int) - 1)) = ((drop1 x : Nat) : Int) := by
          have e : IntKind.u64.wrap ((x : Int) - 1) = ((x - 1 : Nat) : Int) := by
            unfold W64 at hx; rw [IntKind.wrap_u64]; omega
          rw [e, bits_and_nat x _ hx (by unfold W64 at *; omega)]; rfl
        have d0 := hR3.cell 0
        simp only [List.getElem?_toArray, List.getElem?_cons_zero] at d0
        have hf := hR3.frozen 0
        have hR4 : Row (W3.setCell ⟨Bm, 0, none⟩ (.int .u64 ((drop1 x : Nat) : Int))) Bm 22 #[.int .u64 ((drop1 x : Nat) : Int)] := hR3.set 0 _
        have hJ4 := HJ.out _ _ _ hJ3 (Only.setCell W3 Bm 0 (.int .u64 ((drop1 x : Nat) : Int)))
        have hlt := drop1_lt x hx0
        have HD := Lib.hid (And.intro hR4 hJ4)
        have HE := Lib.hid hsz3
        have c0' := c0
        clear hR4 hJ4 hS3 hsz3 hR3 hJ3 hJs
        gi_wp2
        go_roundw
        case rel => exact ⟨pre ++ [⟨c, hk⟩], drop1 x, Nat.lt_of_lt_of_le hlt (Nat.le_of_lt hx), by rw [HB.out, HC.out]; simp, HD.out.2, HD.out.1, by simpa using HE.out⟩
        case measure =>
          have e4 := HD.out.1.cell 0
          simp only [List.getElem?_toArray, List.getElem?_cons_zero] at e4
          rw [e4, c0']
          simpa [intOf] using hlt
      · gi_wp2
        refine bodyPost_ret (results_none rfl _ _ _) rfl ?_
        exact ⟨⟨_, rfl⟩, .inr ⟨pre, ⟨c, hk⟩, bitsList (drop1 x), by rw [HB.out, HC.out], hJx3⟩⟩

theorem range_dmO {n p q id ty : Nat} {ps : String} {body : Code} {g : Operand} {Q : Exit → Act → World → Prop} {a : Act} {w : World} (Bm m : Nat) (h1 : 1 ≤ n)
    (hg : a.eval g = .func (.func 81) #[] #[.pointer (some ⟨Bm, 0, none⟩)]) (hp : p < a.tmps.size) (hm : W64 m) (hR : Row w Bm 22 #[.int .u64 (m : Int)])
    (I : List (Fin 64) → World → Prop) (Ix : Code → List (Fin 64) → Fin 64 → World → Prop) (hI : ∀ s A B, I s A → Only (fun k => k = Bm ∨ k = w.heap.size ∨ k = w.heap.size + 1) A B → I s B) (hIx : ∀ c pre x W W', Ix c pre x W → Only (fun k => k = Bm ∨ k = w.heap.size ∨ k = w.heap.size + 1) W W' → Ix c pre x W') (hT : ∀ s W, I s W → Tab W) (h0 : I [] w)
    (hbody : ∀ (l : Nat) (pre suf : List (Fin 64)) (x : Fin 64) (W : World), bitsList m = pre ++ x :: suf → I pre W → w.heap.size + 2 ≤ W.heap.size →
      body.wpIn (Fence.wide.inRound l) (n - 1 - 1) Tryd.prog (fun e _ W' => (e = .normal ∧ Keep (fun k => k = Bm ∨ k = w.heap.size ∨ k = w.heap.size + 1) W W' ∧ I (pre ++ [x]) W') ∨ (∃ i, e = .exit i ∧ Keep (fun k => k = w.heap.size ∨ k = w.heap.size + 1) W W' ∧ Ix (.exit i) pre x W')) (inFrame a p q x) W)
    (hdone : ∀ (D : Nat) (W : World), D = w.heap.size → I (bitsList m) W → W.heap[D]? = some (.deferred (some [])) → Q .normal { a with defers := { target := .collected D, args := #[] } :: a.defers } W)
    (hstop : ∀ (D : Nat) (c : Code) (pre suf : List (Fin 64)) (x : Fin 64) (W : World), D = w.heap.size → bitsList m = pre ++ x :: suf → Ix c pre x W → W.heap[D]? = some (.deferred (some [])) → c.wpIn Fence.wide n Tryd.prog Q { a with defers := { target := .collected D, args := #[] } :: a.defers } W) :
    (Code.rangeFunc g #[p] (Code.region id #[{ dst := some q, op := .assign (.tmp p), type := ty, pos := ps, after := #[], guard := none }] false) body).wpIn Fence.wide n Tryd.prog Q a w := by
  refine wpIn_rangeFunc ?_
  intro fn hfn
  rw [show Fence.wide.round = none from rfl]
  have hBl : Bm < w.heap.size := hR.lt
  obtain ⟨asg, hasg⟩ : ∃ c, c = Code.region id #[{ dst := some q, op := .assign (.tmp p), type := ty, pos := ps, after := #[], guard := none }] false := ⟨_, rfl⟩
  obtain ⟨rec, hrec⟩ : ∃ rec : LoopState → Option Code → Loop, rec = fun st pe => { state := st, pending := pe, fn, tmps := a.tmps, params := #[p], assign := asg, body, defers := w.heap.size } := ⟨_, rfl⟩
  obtain ⟨W1, hW1⟩ : ∃ W1, (w.alloc (.deferred (some []))).alloc (.loop (rec .ready none)) = W1 := ⟨_, rfl⟩
  have hs1 : W1.heap.size = w.heap.size + 2 := by rw [← hW1]; simp
  have hL1 : W1.heap[w.heap.size + 1]? = some (.loop (rec .ready none)) := by
    rw [← hW1]; have := World.alloc_heap_new (w.alloc (.deferred (some []))) (.loop (rec .ready none)); rwa [World.size_alloc] at this
  have hK1 : W1.heap[w.heap.size]? = some (.deferred (some [])) := by
    rw [← hW1]; exact (Below.heap_alloc _ _ _ (by simp)).trans (World.alloc_heap_new w _)
  have hbW : Below w.heap.size w W1 := by rw [← hW1]; exact ((Below.refl _ w).alloc (Nat.le_refl _) _).alloc (by simp) _
  have hR1 : Row W1 Bm 22 #[.int .u64 (m : Int)] := hR.below hBl hbW
  have hI1 : I [] W1 := hI _ _ _ h0 (Only.of_below hbW)
  rw [← hasg]
  refine ⟨w.heap.size + 1, [{ target := .collected w.heap.size, args := #[] }], W1, { target := .fn (.func 81) #[.pointer (some ⟨Bm, 0, none⟩)], args := #[.func (.yield (w.heap.size + 1)) #[] #[]] }, W1, 81,
    #[.func (.yield (w.heap.size + 1)) #[] #[]] ++ #[.pointer (some ⟨Bm, 0, none⟩)], W1, ?_, ?_, ?_, ?_, fun _ => h1, ?_⟩
  · rw [← hW1, hrec]; exact run_enterLoop_outer _ _ _ _ _
  · simp only [resolve, hg]
    simp [go_sem]
  · intro f' hf'; simp [Target.leads] at hf'; subst hf'; trivial
  · simp [invoke, go_sem]
  · refine (cards1_only (n - 1) (w.heap.size + 1) Bm m hm
      (fun pre W => I pre W ∧ W.heap[w.heap.size + 1]? = some (.loop (rec .ready none)) ∧ W.heap[w.heap.size]? = some (.deferred (some [])))
      (fun pre x W => ∃ c, Ix c pre x W ∧ W.heap[w.heap.size + 1]? = some (.loop (rec .done (some c))) ∧ W.heap[w.heap.size]? = some (.deferred (some [])))
      W1 hR1
      (fun s A B hs hb => ⟨hI _ _ _ hs.1 (hb.weak fun k hk => .inl hk), (hb.same _ (Array.getElem?_eq_some_iff.1 hs.2.1).1 (by show ¬ (_ = Bm); omega)).trans hs.2.1, (hb.same _ (Array.getElem?_eq_some_iff.1 hs.2.2).1 (by show ¬ (_ = Bm); omega)).trans hs.2.2⟩)
      (fun s A hs => hT s A hs.1) ?_ ⟨hI1, hL1, hK1⟩).mono ?_
    · rintro pre x suf W hx ⟨hi, hl, hk⟩ hsz
      have hy := run_yield (P := Tryd.prog) (args := #[.int .u8 (x.val : Int)]) hl (by rw [hrec]; rfl)
      rw [hrec] at hy
      have hlt : w.heap.size + 1 < W.heap.size := (Array.getElem?_eq_some_iff.1 hl).1
      refine ⟨fn, _, asg, body, hy, roundIn_of_wpIn hfn ?_⟩
      clear hy
      have hasgn : ∀ (K : Act → World → Prop), K (inFrame a p q x) W → asg.wpIn (Fence.wide.inRound (w.heap.size + 1)) (n - 1 - 1) Tryd.prog (Exit.then K (fun _ _ _ => False)) { tmps := ((#[p] : Array Tmp).zip #[Value.int .u8 (x.val : Int)]).foldl (fun t (p, v) => t.setIfInBounds p v) a.tmps, defers := [] } W := by
        intro K hK
        rw [hasg]
        refine wpIn_region_lit ?_
        simp only [List.zip_toArray, List.zip_cons_cons, List.zip_nil_left]
        simp [wpListIn, Oper.wpIn, go_sem, Oper.about, Oper.uponIn, execOp, Act.eval, Act.put, Exit.then]
        rw [if_pos hp]
        exact hK
      refine hasgn _ ⟨_, run_beginRound hl (by rw [hrec]), ?_⟩
      have hl2 : (W.putObj (w.heap.size + 1) (.loop { rec .ready none with state := .busy })).heap[w.heap.size + 1]? = some (.loop { rec .ready none with state := .busy }) := World.putObj_heap_same hlt
      have hk2 : (W.putObj (w.heap.size + 1) (.loop { rec .ready none with state := .busy })).heap[w.heap.size]? = some (.deferred (some [])) := (World.putObj_heap_other (by omega)).trans hk
      have hi2 := hI _ _ _ hi (Only.putObj (by simp) hl (.loop { rec .ready none with state := .busy }))
      refine wpIn_mono (hbody _ pre suf x _ hx hi2 (by simp [World.putObj]; omega)) ?_
      have hnK : ¬ (w.heap.size + 1 = Bm) := by omega
      have fin : ∀ (jump : Option Code) (W3 : World), Keep (fun k => k = w.heap.size ∨ k = w.heap.size + 1) (W.putObj (w.heap.size + 1) (.loop { rec .ready none with state := .busy })) W3 →
          (Instr.endRound (w.heap.size + 1) jump).run Tryd.prog W3 = .ok (.bool jump.isNone) (W3.putObj (w.heap.size + 1) (.loop (rec (if jump.isNone then .ready else .done) jump))) ∧
          W3.heap[w.heap.size + 1]? = some (.loop { rec .ready none with state := .busy }) ∧
          (W3.putObj (w.heap.size + 1) (.loop (rec (if jump.isNone then .ready else .done) jump))).heap[w.heap.size + 1]? = some (.loop (rec (if jump.isNone then .ready else .done) jump)) ∧
          (W3.putObj (w.heap.size + 1) (.loop (rec (if jump.isNone then .ready else .done) jump))).heap[w.heap.size]? = some (.deferred (some [])) := fun jump W3 hk3 => by
        have hl3 := (hk3.same _ (.inr rfl) (Array.getElem?_eq_some_iff.1 hl2).1).trans hl2
        have := run_endRound (P := Tryd.prog) jump hl3
        rw [hrec] at this ⊢
        exact ⟨this, by rw [hrec] at hl3; exact hl3, World.putObj_heap_same (Array.getElem?_eq_some_iff.1 hl3).1, (World.putObj_heap_other (by omega)).trans ((hk3.same _ (.inl rfl) (Array.getElem?_eq_some_iff.1 hk2).1).trans hk2)⟩
      rintro e a3 W3 (⟨rfl, hs3, hi3⟩ | ⟨i, rfl, hs3, hi3⟩)
      · obtain ⟨hr, hl3, hl4, hk4⟩ := fin none W3 (hs3.weak fun k hk => .inr hk)
        have hs2 : Keep (· = Bm) W W3 := ((Keep.refl (· = Bm) W).putObj hnK (.loop { rec .ready none with state := .busy })).trans (hs3.weak fun k hk => .inl hk)
        exact ⟨_, _, hr, .inl ⟨rfl, ⟨hI _ _ _ hi3 (Only.putObj (by simp) hl3 _), hl4, hk4⟩, hs2.putObj hnK _⟩⟩
      · obtain ⟨hr, hl3, hl4, hk4⟩ := fin (some (.exit i)) W3 hs3
        exact ⟨_, _, hr, .inr ⟨rfl, .exit i, hIx _ _ _ _ _ hi3 (Only.putObj (by simp) hl3 _), hl4, hk4⟩⟩
    · rintro e W2 ⟨⟨v, rfl⟩, (⟨hi, hl, hk⟩ | ⟨pre, x, suf, hx, c, hi, hl, hk⟩)⟩
      · exact ⟨none, _, by have := run_endLoop (P := Tryd.prog) hl (by rw [hrec]; simp); rw [hrec] at this; exact this, hdone _ _ rfl (hI _ _ _ hi (Only.putObj (by simp) hl _)) ((World.putObj_heap_other (by omega)).trans hk)⟩
      · exact ⟨some c, _, by have := run_endLoop (P := Tryd.prog) hl (by rw [hrec]; simp); rw [hrec] at this; exact this, hstop _ _ _ _ _ _ rfl hx (hIx _ _ _ _ _ hi (Only.putObj (by simp) hl _)) ((World.putObj_heap_other (by omega)).trans hk)⟩
end Go.Proofs.YtnbillhodbcfbaaDoor

/- Slices that the call owns, of elements of any fixed size: append, cells. -/
namespace Go.Proofs.YtnbillhodbcfbaaDoor
open Go.RowKit Go.Sort

/-- append(v, src...), v the call's own, src any cells -/
theorem appO {α : Type} {enc : α → List Value} {m : Nat} {T : TypeId} {w : World} {ops : Array Oper} {rest : List Oper} {o : Oper} {a : Act} {Q : Exit → Act → World → Prop} (hgd : o.guard = none) (s x : Operand) (TS : TypeId)
    (ho : o.op = .call { callee := .builtin .append, args := #[s, x], argTypes := #[TS, TS] })
    (hu : Tryd.prog.underlying TS = some (.slice T)) (z : Value) (bytes : Nat) (hinfo : (Tryd.prog.info? T).map (fun i => (i.zero, i.size, i.bytes)) = some (some z, m, bytes)) (hm0 : 0 < m) (hz : z.cells.size = m) (hb : bytes ≤ 1000000) (hone : ∀ x, ∀ u ∈ enc x, u.oneCell' = true)
    (base : Nat) (v : Value) (zs ys : List α) (hs : a.eval s = v) (hown : Owns enc m T w base v zs) (ad : Addr) (k c : Nat) (hx : a.eval x = .slice (some ad) k c) (hk : ys.length = k) (hy : ∀ j u, (ys.flatMap enc)[j]? = some u → w.cell? (ad.add j) = some u)
    (hbytes : zs.length + k ≤ 100000000) (hbase : base ≤ w.heap.size)
    (h : ∀ v' w', Owns enc m T w' base v' (zs ++ ys) → Below base w w' → w.grownBy w' v.ownBlock → (v'.ownBlock = v.ownBlock ∨ v'.ownBlock = some w.heap.size) → wpList Tryd.prog ops Q rest (a.put o.dst v') w') : wpList Tryd.prog ops Q (o :: rest) a w := by
  obtain ⟨i0, hi, hz0, hz1, hz2⟩ := info_parts hinfo
  have hbb : (zs.length + k) * bytes ≤ 140737488355328 := Nat.le_trans (Nat.mul_le_mul hbytes hb) (by decide)
  refine wpList_append_own_at _ hgd s x TS ho base T i0 z m bytes hu hi hz0 hz1 hz2 hz hm0 v zs.length (zs.flatMap enc) hs hown.2 ad k c (ys.flatMap enc) hx (by rw [flat_len hown.1, hk]) hy (fun u hu => by obtain ⟨y, _, h2⟩ := List.mem_flatMap.1 hu; exact hone y u h2) (by unfold maxLen; omega) hbb hbase ?_
  intro v' w' h1 h2 _ h3
  refine h v' w' ⟨hown.1, ?_⟩ ((Below.refl _ _).grown h2 hbase (fun k hk => (World.ownsRow.lt hown.2 k hk).1)) h2 h3
  rw [List.length_append, List.flatMap_append, hk]
  exact h1
theorem flat_take {α : Type} {enc : α → List Value} {m : Nat} (h : ∀ x, (enc x).length = m) : ∀ (l : List α) (k : Nat), (l.take k).flatMap enc = (l.flatMap enc).take (k * m)
  | [], k => by simp
  | x :: l, 0 => by simp
  | x :: l, k + 1 => by
    rw [List.take_succ_cons, List.flatMap_cons, List.flatMap_cons, flat_take h l k, Nat.succ_mul, List.take_append, h]
    rw [List.take_of_length_le (i := k * m + m) (l := enc x) (by rw [h]; omega), show k * m + m - m = k * m by omega]
/-- the beginning of a slice -/
theorem owns_shrink {α : Type} {enc : α → List Value} {m : Nat} {T : TypeId} {w : World} {base g n cap k : Nat} {l : List α} (h : Owns enc m T w base (.slice (some ⟨g, 0, none⟩) n cap) l) (hk : k ≤ l.length) : Owns enc m T w base (.slice (some ⟨g, 0, none⟩) k cap) (l.take k) := by
  obtain ⟨h1, h2, h3⟩ := h
  have hl : (l.take k).length = k := by rw [List.length_take, Nat.min_eq_left hk]
  refine ⟨h1, flat_len h1 _, ?_⟩
  rw [hl]
  rcases h3 with ⟨h, _⟩ | ⟨g', cap', cur, h, hb, hh, hn, hcm, hcs, ht⟩
  · cases h
  · simp only [Value.slice.injEq, Option.some.injEq, Addr.mk.injEq, and_true] at h
    obtain ⟨rfl, rfl, rfl⟩ := h
    refine .inr ⟨g, cap, cur, rfl, hb, hh, by omega, hcm, hcs, ?_⟩
    rw [flat_take h1, ← ht, List.take_take, Nat.min_eq_left (Nat.mul_le_mul_right _ hk)]
/-- append(v, src...), v the call's own; what v itself says stays -/
theorem appEO {α : Type} {enc : α → List Value} {m : Nat} {T : TypeId} {w : World} {ops : Array Oper} {rest : List Oper} {o : Oper} {a : Act} {Q : Exit → Act → World → Prop} (hgd : o.guard = none) (s x : Operand) (TS : TypeId)
    (ho : o.op = .call { callee := .builtin .append, args := #[s, x], argTypes := #[TS, TS] })
    (hu : Tryd.prog.underlying TS = some (.slice T)) (z : Value) (bytes : Nat) (hinfo : (Tryd.prog.info? T).map (fun i => (i.zero, i.size, i.bytes)) = some (some z, m, bytes)) (hm0 : 0 < m) (hz : z.cells.size = m) (hb : bytes ≤ 1000000) (hone : ∀ x, ∀ u ∈ enc x, u.oneCell' = true)
    (base : Nat) (v : Value) (zs ys : List α) (hs : a.eval s = v) (hown : Owns enc m T w base v zs) (ad : Addr) (k c : Nat) (hx : a.eval x = .slice (some ad) k c) (hk : ys.length = k) (hk0 : 0 < k) (hy : ∀ j u, (ys.flatMap enc)[j]? = some u → w.cell? (ad.add j) = some u)
    (hbytes : zs.length + k ≤ 100000000) (hbase : base ≤ w.heap.size)
    (h : ∀ v' w', Owns enc m T w' base v' (zs ++ ys) → Owns enc m T w' base v zs → w.grownBy w' v.ownBlock → ((v'.ownBlock = v.ownBlock ∧ v ≠ .slice none 0 0) ∨ ∃ g, v'.ownBlock = some g ∧ w.heap.size ≤ g) → wpList Tryd.prog ops Q rest (a.put o.dst v') w') : wpList Tryd.prog ops Q (o :: rest) a w := by
  obtain ⟨i0, hi, hz0, hz1, hz2⟩ := info_parts hinfo
  have hml : zs.length + k ≤ maxLen := by unfold maxLen; omega
  have hbb : (zs.length + k) * bytes ≤ 140737488355328 := Nat.le_trans (Nat.mul_le_mul hbytes hb) (by decide)
  have hone' : ∀ u ∈ ys.flatMap enc, u.oneCell' = true := fun u hu => by obtain ⟨y, _, h2⟩ := List.mem_flatMap.1 hu; exact hone y u h2
  have hyl : (ys.flatMap enc).length = k * m := by rw [flat_len hown.1, hk]
  have grow : ∀ (ao : Option Addr) (cap : Nat), v = .slice ao zs.length cap → (ao = none → zs.length = 0 ∧ cap = 0) → (∀ b, ao = some b → ∀ j u, (zs.flatMap enc)[j]? = some u → w.cell? (b.add j) = some u) → cap < zs.length + k → wpList Tryd.prog ops Q (o :: rest) a w := by
    intro ao cap hv hnone hcell hfull
    refine wpList_append_grows w hgd s x TS ho T i0 z m bytes hu hi hz0 hz1 hz2 hz hm0 ao zs.length cap (zs.flatMap enc) (by rw [hs, hv]) hnone (flat_len hown.1 _) hcell ad k c (ys.flatMap enc) hx hyl hy hone' hfull hml hbb ?_
    intro v' w' h1 h2
    have hown' : Owns enc m T w' w.heap.size v' (zs ++ ys) := ⟨hown.1, by rw [List.length_append, List.flatMap_append, hk]; exact h1⟩
    refine h v' w' (hown'.mono hbase) (Owns.kept hown h2 (.inr rfl)) ⟨h2.os, h2.tape, h2.output, h2.size, fun k hk _ => h2.block k hk (by simp)⟩ (.inr ?_)
    rcases hown'.form with ⟨_, he⟩ | ⟨g, c', hv', hg, _⟩
    · have := (List.append_eq_nil_iff.1 he).2
      rw [this] at hk
      simp at hk; omega
    · exact ⟨g, by rw [hv']; rfl, hg⟩
  rcases hown.form with ⟨hv, hz⟩ | ⟨g, cap, hv, hg, hgs, hlc, hcm⟩
  · subst hz
    exact grow none 0 hv (fun _ => ⟨rfl, rfl⟩) (fun b h => by cases h) (by simp; exact hk0)
  · by_cases hfit : zs.length + k ≤ cap
    · have hown0 := hown
      rw [hv] at hown
      refine wpList_append_fits w hgd s x TS ho base T i0 m hu hi hz1 g zs.length cap (zs.flatMap enc) (by rw [hs, hv]) hown.2 ad k c (ys.flatMap enc) hx hyl hy hone' hfit ?_
      intro w' h1 h2
      have hown' : Owns enc m T w' base (.slice (some ⟨g, 0, none⟩) (zs.length + k) cap) (zs ++ ys) := ⟨hown.1, by rw [List.length_append, List.flatMap_append, hk]; exact h1⟩
      have hsh := owns_shrink hown' (k := zs.length) (by rw [List.length_append]; omega)
      rw [List.take_left] at hsh
      exact h _ w' hown' (by rw [hv]; exact hsh) (by rw [hv]; exact h2) (.inl ⟨by rw [hv]; rfl, by rw [hv]; intro e; cases e⟩)
    · refine grow (some ⟨g, 0, none⟩) cap hv (fun h => by cases h) (fun b hb j u hu => ?_) (by omega)
      have hb := (Option.some.inj hb).symm
      subst hb
      have hj : j < zs.length * m := by have := (List.getElem?_eq_some_iff.1 hu).1; rwa [flat_len hown.1] at this
      rw [hv] at hown
      have := World.ownsRow.cellAt hown.2 j hj
      rw [hu] at this
      rw [← this]
      unfold Addr.add
      split
      · rename_i h0; rw [h0]
      · simp
/-- one element in a new block -/
theorem one_new {α : Type} {enc : α → List Value} (w : World) (x : α) (cs : Array Value) (hc : cs.toList = enc x) (T : TypeId) : ∀ j u, (([x] : List α).flatMap enc)[j]? = some u → (w.alloc (.cells cs T)).cell? ((⟨w.heap.size, 0, none⟩ : Addr).add j) = some u := by
  intro j u hu
  have hu : (enc x)[j]? = some u := by simpa using hu
  rw [← hc] at hu
  have := cells_new w cs.toList T j u hu
  simpa using this

end Go.Proofs.YtnbillhodbcfbaaDoor

/- Regions with one call, a slice of one element, an append and a store; own slices of choices. -/
namespace Go.Proofs.YtnbillhodbcfbaaDoor
open Go.RowKit Go.Sort Go.Shelf Go.Maps Go.WideMaps

/-- a region in which operation 6 calls, 8 makes a slice, 9 appends it, 10 stores what comes out -/
structure FQ (vals : List Value) (A B : World → Prop) (C D : Value → World → Prop) (E : World → Prop) (f : Done) (W : World) : Prop where
  val : ∀ j v x, j ≠ 8 → j ≠ 9 → f j = some v → vals[j]? = some x → v = x
  s0 : f 6 = none → f 8 = none ∧ f 9 = none ∧ f 10 = none ∧ A W
  s1 : ∀ x, f 6 = some x → f 8 = none → f 9 = none ∧ f 10 = none ∧ B W
  s2 : ∀ x, f 8 = some x → f 9 = none → f 10 = none ∧ C x W
  s3 : ∀ y, f 9 = some y → f 10 = none → D y W
  s4 : ∀ u, f 10 = some u → E W
variable {vals : List Value} {A B E : World → Prop} {C D : Value → World → Prop} {f : Done} {W W' : World}
theorem FQ.start (h : A W) : FQ vals A B C D E (fun _ => none) W := ⟨fun _ _ _ _ _ h => (by cases h), fun _ => ⟨rfl, rfl, rfl, h⟩, (fun _ h => by cases h), (fun _ h => by cases h), (fun _ h => by cases h), fun _ h => by cases h⟩
theorem FQ.look (h : FQ vals A B C D E f W) (h10 : f 10 = none) : A W ∨ B W ∨ (∃ x, C x W) ∨ ∃ y, D y W := by
  rcases h6 : f 6 with _ | x
  · exact .inl (h.s0 h6).2.2.2
  · rcases h8 : f 8 with _ | y
    · exact .inr (.inl (h.s1 x h6 h8).2.2)
    · rcases h9 : f 9 with _ | z
      · exact .inr (.inr (.inl ⟨y, (h.s2 y h8 h9).2⟩))
      · exact .inr (.inr (.inr ⟨z, h.s3 z h9 h10⟩))
theorem FQ.vset (h : FQ vals A B C D E f W) (i : Nat) (v : Value) (hv : i = 8 ∨ i = 9 ∨ vals[i]? = some v) : ∀ j u x, j ≠ 8 → j ≠ 9 → (f.set i v) j = some u → vals[j]? = some x → u = x := by
  intro j u x h8 h9 hj hx
  by_cases e : j = i
  · subst e
    rw [Done.same] at hj
    rcases hv with e | e | hv
    · exact absurd e h8
    · exact absurd e h9
    · rw [hv] at hx
      exact (Option.some.inj hj).symm.trans (Option.some.inj hx)
  · rw [Done.other f v e] at hj
    exact h.val j u x h8 h9 hj hx
theorem FQ.pure (h : FQ vals A B C D E f W) (i : Nat) (v : Value) (hi : i ≠ 6 ∧ i ≠ 8 ∧ i ≠ 9 ∧ i ≠ 10) (hv : vals[i]? = some v) : FQ vals A B C D E (f.set i v) W := by
  refine ⟨h.vset i v (.inr (.inr hv)), ?_, ?_, ?_, ?_, ?_⟩
  all_goals
    simp only [Done.other f v (Ne.symm hi.1), Done.other f v (Ne.symm hi.2.1), Done.other f v (Ne.symm hi.2.2.1), Done.other f v (Ne.symm hi.2.2.2)]
  · exact h.s0
  · exact h.s1
  · exact h.s2
  · exact h.s3
  · exact h.s4
theorem FQ.call (h : FQ vals A B C D E f W) (v : Value) (hv : vals[6]? = some v) (hf : f 6 = none) (hB : B W') : FQ vals A B C D E (f.set 6 v) W' := by
  obtain ⟨h8, h9, h10, -⟩ := h.s0 hf
  refine ⟨h.vset 6 v (.inr (.inr hv)), ?_, ?_, ?_, ?_, ?_⟩
  all_goals simp only [Done.same, Done.other f v (show 8 ≠ 6 by decide), Done.other f v (show 9 ≠ 6 by decide), Done.other f v (show 10 ≠ 6 by decide), h8, h9, h10]
  · intro h; cases h
  · exact fun _ _ _ => ⟨trivial, trivial, hB⟩
  · intro _ h; cases h
  · intro _ h; cases h
  · intro _ h; cases h
theorem FQ.made (h : FQ vals A B C D E f W) (v : Value) {x : Value} (h6 : f 6 = some x) (hf : f 8 = none) (hC : C v W') : FQ vals A B C D E (f.set 8 v) W' := by
  obtain ⟨h9, h10, -⟩ := h.s1 x h6 hf
  refine ⟨h.vset 8 v (.inl rfl), ?_, ?_, ?_, ?_, ?_⟩
  all_goals simp only [Done.same, Done.other f v (show 6 ≠ 8 by decide), Done.other f v (show 9 ≠ 8 by decide), Done.other f v (show 10 ≠ 8 by decide), h6, h9, h10]
  · intro h; cases h
  · intro _ _ h; cases h
  · rintro y hy -
    exact ⟨trivial, Option.some.inj hy ▸ hC⟩
  · intro _ h; cases h
  · intro _ h; cases h
theorem FQ.app (h : FQ vals A B C D E f W) (v : Value) {x y : Value} (h6 : f 6 = some x) (h8 : f 8 = some y) (hf : f 9 = none) (hD : D v W') : FQ vals A B C D E (f.set 9 v) W' := by
  obtain ⟨h10, -⟩ := h.s2 y h8 hf
  refine ⟨h.vset 9 v (.inr (.inl rfl)), ?_, ?_, ?_, ?_, ?_⟩
  all_goals simp only [Done.same, Done.other f v (show 6 ≠ 9 by decide), Done.other f v (show 8 ≠ 9 by decide), Done.other f v (show 10 ≠ 9 by decide), h6, h8, h10]
  · intro h; cases h
  · intro _ _ h; cases h
  · intro _ _ h; cases h
  · rintro z hz -
    exact Option.some.inj hz ▸ hD
  · intro _ h; cases h
theorem FQ.store (h : FQ vals A B C D E f W) (v : Value) (hv : vals[10]? = some v) {x y z : Value} (h6 : f 6 = some x) (h8 : f 8 = some y) (h9 : f 9 = some z) (hE : E W') : FQ vals A B C D E (f.set 10 v) W' := by
  refine ⟨h.vset 10 v (.inr (.inr hv)), ?_, ?_, ?_, ?_, ?_⟩
  all_goals simp only [Done.same, Done.other f v (show 6 ≠ 10 by decide), Done.other f v (show 8 ≠ 10 by decide), Done.other f v (show 9 ≠ 10 by decide), h6, h8, h9]
  · intro h; cases h
  · intro _ _ h; cases h
  · intro _ _ h; cases h
  · intro _ _ h; cases h
  · exact fun _ _ => hE
/-- a slice of choices -/
def encC (x : Nat × Nat) : List Value := [.int .u8 (x.1 : Int), .int .i64 (x.2 : Int)]
abbrev OwnC (w : World) (base : Nat) (v : Value) (l : List (Nat × Nat)) : Prop := Owns encC 2 38 w base v l
theorem encC_len (x : Nat × Nat) : (encC x).length = 2 := rfl
theorem encC_one (x : Nat × Nat) : ∀ u ∈ encC x, u.oneCell' = true := by
  intro u hu
  simp only [encC, List.mem_cons, List.not_mem_nil, or_false] at hu
  rcases hu with rfl | rfl <;> rfl
theorem info_ch : (Tryd.prog.info? 38).map (fun i => (i.zero, i.size, i.bytes)) = some (some (.agg #[.int .u8 0, .int .i64 0]), 2, 16) := by kernel_rfl
theorem Owns.same {α : Type} {enc : α → List Value} {m : Nat} {T : TypeId} {w w' : World} {base : Nat} {v : Value} {l : List α} (h : Owns enc m T w base v l) (hs : ∀ g, base ≤ g → g < w.heap.size → w'.heap[g]? = w.heap[g]?) : Owns enc m T w' base v l := by
  refine ⟨h.1, h.2.1, ?_⟩
  rcases h.2.2 with h2 | ⟨g, cap, cur, h1, h2, h3, h4⟩
  · exact .inl h2
  · exact .inr ⟨g, cap, cur, h1, h2, (hs g h2 (Array.getElem?_eq_some_iff.1 h3).1).trans h3, h4⟩
theorem Owns.block {α : Type} {enc : α → List Value} {m : Nat} {T : TypeId} {w : World} {base : Nat} {v : Value} {l : List α} (h : Owns enc m T w base v l) {g : Nat} (hg : v.ownBlock = some g) : base ≤ g ∧ g < w.heap.size := by
  rcases h.form with ⟨e, -⟩ | ⟨g', cap, e, h1, h2, -⟩
  · rw [e] at hg; cases hg
  · rw [e] at hg
    obtain rfl : g' = g := by simpa [Value.ownBlock] using hg
    exact ⟨h1, h2⟩
/-- append of one choice, as an operation -/
theorem ok_appC {o : Oper} {ρ : Operand → Value} {w : World} {R : Value → World → Prop} (s x : Operand)
    (ho : o.op = .call { callee := .builtin .append, args := #[s, x], argTypes := #[31, 31] })
    (base : Nat) (u : Value) (l : List (Nat × Nat)) (y : Nat × Nat) (hs : ρ s = u) (hown : OwnC w base u l) (g : Nat) (hx : ρ x = .slice (some ⟨g, 0, none⟩) 1 1) (hy : Row w g 38 #[.int .u8 (y.1 : Int), .int .i64 (y.2 : Int)])
    (hl : l.length ≤ 1000) (hbase : base ≤ w.heap.size)
    (h : ∀ v' w', OwnC w' base v' (l ++ [y]) → w.grownBy w' u.ownBlock → R v' w') : OpOk Tryd.prog o ρ w R := by
  obtain ⟨i0, hi, hz0, hz1, hz2⟩ := info_parts info_ch
  obtain ⟨v', w', hr, h1, h3, h5, h4⟩ := run_append_own_at (P := Tryd.prog) (w := w) base 31 o.type 38 i0 _ 2 16 Tryd.underlying31 hi hz0 hz1 hz2 rfl (by decide) u l.length (l.flatMap encC) hown.2 ⟨g, 0, none⟩ 1 1 (encC y) rfl (fun j u hu => by
    have := hy.cell j
    unfold Addr.add
    have hj : j < 2 := (List.getElem?_eq_some_iff.1 hu).1
    rcases (show j = 0 ∨ j = 1 by omega) with rfl | rfl
    · exact this.trans hu
    · exact this.trans hu) (encC_one y) (by unfold maxLen; omega) (by omega) hbase
  refine ok_value (v := v') (w' := w') ?_ (h v' w' ⟨encC_len, ?_⟩ h3)
  · unfold execOp
    simp only [ho, resolve, invoke, builtin, Sem.run_bind, Sem.run_pure, Result.andThen_ok, List.map_toArray, List.map_cons, List.map_nil, hs, hx, hr]
  · rw [List.length_append, List.flatMap_append]
    simpa using h1
end Go.Proofs.YtnbillhodbcfbaaDoor
