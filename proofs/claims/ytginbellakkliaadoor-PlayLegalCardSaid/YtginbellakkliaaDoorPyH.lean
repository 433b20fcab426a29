/- Contracts of a play's methods Tricks and Result, over this seat's program. -/
import Derived.Test.YtginbellakkliaaDoorPyG
namespace Go.Proofs.YtginbellakkliaaDoor
open Go.RowKit Go.Shelf Go.Sort
attribute [local go_sem] Oper.semAt_some

theorem stable_below {β : Type} {B n : Nat} {w : World} (h : n ≤ B) (hn : n ≤ w.heap.size) : StableG (β := β) B (fun _ _ W => Below n w W) := by
  intro G G' s W W' hi hm _ _
  refine ⟨hm.base.os.trans hi.os, hm.base.tape.trans hi.tape, hm.base.output.trans hi.output, Nat.le_trans hi.size hm.base.size, fun k hk => ?_⟩
  rcases hm.block k (by have := hi.size; omega) with h1 | ⟨h1, _⟩
  · exact h1.trans (hi.block k hk)
  · omega
theorem stable_row {β : Type} {B b : Nat} {t : TypeId} {c : β → Array Value} (h : b < B) : StableG B (fun _ s W => Row W b t (c s)) := by
  intro G G' s W W' hi hm _ _
  rcases hm.block b hi.lt with h1 | ⟨h1, _⟩
  · exact hi.same h1
  · omega
theorem stable_and {β : Type} {B : Nat} {I J : (Nat → Prop) → β → World → Prop} (hi : StableG B I) (hj : StableG B J) : StableG B (fun G s W => I G s W ∧ J G s W) :=
  fun G G' s W W' h hm h1 h2 => ⟨hi G G' s W W' h.1 hm h1 h2, hj G G' s W W' h.2 hm h1 h2⟩
theorem keeps_set {B : Nat} (W : World) {p : Addr} (v : Value) (hp : p.block < B) : KeepsFrom B W (W.setCell p v) :=
  ⟨by simp [World.setCell], fun k o hk ho _ => (Below.heap_setCell W p v k (fun e => by omega)).trans ho⟩
theorem keeps_refl {B : Nat} (W : World) : KeepsFrom B W W := ⟨Nat.le_refl _, fun _ _ _ ho _ => ho⟩
theorem seq_tricks {n R B base : Nat} {p : Ply} {a : Option Addr} {cap : Nat} {vb : Value} {w : World} (S : Nat → Prop) (hp : p.ok) (hR : Row w R 31 #[.pointer (some ⟨B, 0, none⟩)]) (h : PlyAt w B base p (.slice a p.steps.length cap) vb)
    (hSR : S R) (hSB : S B) (hSa : ∀ g, (Value.slice a p.steps.length cap).ownBlock = some g → S g) (hS : ∀ b, S b → b < w.heap.size) :
    SeqG Fence.wide n Tryd.prog 64 #[.pointer (some ⟨R, 0, none⟩)] (fun x => #[.agg (Tk.cells x)]) S p.tks w := by
  intro l J W hb hJ hY hJ0
  exact tricks1_in n l R B base S p a cap vb J W hp (hR.below hR.lt hb) (h.below hb) hSR hSB hSa (fun b h => Nat.lt_of_lt_of_le (hS b h) hb.size) hJ hY hJ0
/-- the frame in a round: the trick lies in slot q, its block T in s -/
def inTk (t : Act) (q s : Nat) (x : Tk) (T : Nat) : Act :=
  { tmps := (t.tmps.setIfInBounds q (.agg (Tk.cells x))).setIfInBounds s (.pointer (some ⟨T, 0, none⟩)), defers := [] }
theorem range_tricks {n q s id : Nat} {ps ps' : String} {body : Code} {g : Operand} {Q : Exit → Act → World → Prop} {t : Act} {w : World} (R B base : Nat) (p : Ply) (a : Option Addr) (cap : Nat) (vb : Value) (h1 : 1 ≤ n)
    (hg : t.eval g = .func (.func 64) #[] #[.pointer (some ⟨R, 0, none⟩)]) (hq : q < t.tmps.size) (hs : s < t.tmps.size) (hsq : s ≠ q)
    (hp : p.ok) (hR : Row w R 31 #[.pointer (some ⟨B, 0, none⟩)]) (hP : PlyAt w B base p (.slice a p.steps.length cap) vb) (S : Nat → Prop) (hSR : S R) (hSB : S B) (hSa : ∀ g, (Value.slice a p.steps.length cap).ownBlock = some g → S g) (hS : ∀ b, S b → b < w.heap.size)
    (I : (Nat → Prop) → List Tk → World → Prop) (hI : StableG w.heap.size I) (h0 : I noG [] w)
    (hbody : ∀ (l : Nat) (G : Nat → Prop) (pre : List Tk) (x : Tk) (T : Nat) (W : World), I G pre W → Row W T 96 (Tk.cells x) → w.heap.size ≤ T → (∀ b, G b → b < W.heap.size ∧ w.heap.size ≤ b) → w.heap.size ≤ W.heap.size → (pre ++ [x]) <+: p.tks →
      body.wpIn (Fence.wide.inRound l) (n - 1 - 1) Tryd.prog (gPost w.heap.size S G I (pre ++ [x]) W) (inTk t q s x T) W)
    (hdone : ∀ (D : Nat) (G : Nat → Prop) (W : World), w.heap.size ≤ D → I G p.tks W → W.heap[D]? = some (.deferred (some [])) → Q .normal { t with defers := { target := .collected D, args := #[] } :: t.defers } W) :
    (Code.rangeFunc g #[q] (Code.region id #[{ dst := some s, op := .alloc 96, type := 0, pos := ps, after := #[], guard := none }, { dst := none, op := .store 96 (.tmp s) (.tmp q), type := 0, pos := ps', after := #[{ on := 0, ground := Ground.data }, { on := 0, ground := Ground.phase }], guard := none }] false) body).wpIn Fence.wide n Tryd.prog Q t w := by
  refine wpIn_rangeFunc_G rfl h1 hg trivial (enters_of Tryd.func64 (by kernel_rfl) rfl) (seq_tricks S hp hR hP hSR hSB hSa hS) (Below.refl _ _) hS (fun _ => rfl) I hI h0
    (fun x W a' => ∃ T, a' = inTk t q s x T ∧ Row W T 96 (Tk.cells x) ∧ w.heap.size ≤ T) ?_ ?_ hdone
  · intro l x W K hsz hK
    refine wpIn_region_lit ?_
    simp only [List.zip_toArray, List.zip_cons_cons, List.zip_nil_left]
    simp [wpListIn, Oper.wpIn, go_sem, Oper.about, Oper.uponIn, execOp, Act.eval, Act.put, Exit.then]
    have hq' : ((t.tmps.setIfInBounds q (Value.agg (Tk.cells x))).setIfInBounds s (Value.pointer (some { block := W.heap.size, off := 0 })))[q]?.getD undef = Value.agg (Tk.cells x) := by
      rw [Array.getElem?_setIfInBounds_ne hsq, Array.getElem?_setIfInBounds_self_of_lt (by simpa using hq)]
      rfl
    rw [if_pos hs]
    simp only [hq']
    simp [go_sem]
    refine hK _ _ ((Below.refl _ W).alloc (Nat.le_refl _) _) (fun l o o' hl ho hc => ⟨W.heap.size, ?_, ?_, ?_⟩)
    · simp only [inTk]
    · have hr := Row.new W 96 (Tk.cells x)
      exact hr.same (World.putObj_heap_other (fun e => by subst e; rw [hr] at ho; injection ho with ho; rw [← ho] at hc; cases hc))
    · exact hsz
  · intro l G pre x a' W hi hAs hG hsz hpre
    obtain ⟨T, rfl, hT, hTw⟩ := hAs
    exact hbody l G pre x T W hi hT hTw hG hsz hpre
theorem ply_tricks (B : Nat) (w : World) :
    Calls Tryd.prog 50 #[.pointer (some ⟨B, 0, none⟩)] w fun e w' => e = .returned (.func (.func 64) #[] #[.pointer (some ⟨w.heap.size, 0, none⟩)]) ∧ w' = w.alloc (.cells #[.pointer (some ⟨B, 0, none⟩)] 31) := by
  go_enter Tryd.func50, Tryd.ntmps50
  go_wp2
  go_ret
  exact ⟨rfl, rfl⟩
/-- the tricks that a side has won -/
def tkWon (l : List Tk) (s : Nat) : Nat := (l.filter fun x => x.win % 2 == s).length
theorem tkWon_snoc (l : List Tk) (x : Tk) (s : Nat) : tkWon (l ++ [x]) s = tkWon l s + (if x.win % 2 = s then 1 else 0) := by
  unfold tkWon
  rw [List.filter_append, List.length_append]
  congr 1
  by_cases h : x.win % 2 = s <;> simp [h]
theorem seatV_lt (t l : Nat) (zs : List Nat) : (seatV t l zs).1 < 4 := by
  unfold seatV
  split
  · simp
  · split
    · simp only; omega
    · simp
theorem tkTo_len (p : Ply) (k : Nat) : (p.tkTo k).length ≤ k := by
  induction k with
  | zero => simp [Ply.tkTo]
  | succ k ih =>
    rw [Ply.tkTo, List.length_append]
    cases p.steps[4 * k + 3]? <;> simp <;> omega
theorem tkTo_win (p : Ply) (k : Nat) : ∀ x ∈ p.tkTo k, x.win < 4 := by
  induction k with
  | zero => intro x hx; cases hx
  | succ k ih =>
    intro x hx
    rw [Ply.tkTo, List.mem_append] at hx
    rcases hx with hx | hx
    · exact ih x hx
    · split at hx
      · cases hx
      · rw [List.mem_singleton] at hx
        subst hx
        exact seatV_lt _ _ _
set_option maxHeartbeats 1000000 in
set_option maxRecDepth 100000 in
theorem ply_Tricks {w : World} {B base : Nat} {p : Ply} {vs vb : Value} (hp : p.ok) (h : PlyAt w B base p vs vb) :
    Calls Tryd.prog 33 #[.pointer (some ⟨B, 0, none⟩)] w fun e w' => e = .returned (.tuple #[.int .i64 (tkWon p.tks 0 : Int), .int .i64 (tkWon p.tks 1 : Int)]) ∧ Below w.heap.size w w' := by
  obtain ⟨a, cap, rfl, -⟩ := h.ss.slice
  refine (callsIn_wide (n := 9)).1 (callsIn_of_wp_marks Tryd.func33 rfl trivial ?_)
  simp only [Tryd.ntmps33, List.size_toArray, List.length_cons, List.length_nil, Nat.reduceAdd, Nat.reduceSub, Array.replicate_succ, Array.replicate_zero, List.push_toArray, List.append_toArray, List.nil_append, List.cons_append]
  have hmany := hp.many
  have hBl := h.row.lt
  gi_wp2_with fail
  refine (callsIn_wide.2 (ply_made hp h)).mono ?_
  rintro e w' ⟨rfl, rfl⟩
  gi_wp2_with fail
  refine (callsIn_wide.2 (ply_tricks B _)).mono ?_
  rintro e w1 ⟨rfl, rfl⟩
  gi_wp2_with fail
  have hWn : Row ((w.alloc (.cells #[.int .i64 0, .int .i64 0] 58)).alloc (.cells #[.pointer (some ⟨B, 0, none⟩)] 31)) w.heap.size 58 #[.int .i64 0, .int .i64 0] := (Row.new w 58 #[.int .i64 0, .int .i64 0]).alloc _
  have hRz : Row ((w.alloc (.cells #[.int .i64 0, .int .i64 0] 58)).alloc (.cells #[.pointer (some ⟨B, 0, none⟩)] 31)) (w.heap.size + 1) 31 #[.pointer (some ⟨B, 0, none⟩)] := by
    have := Row.new (w.alloc (.cells #[.int .i64 0, .int .i64 0] 58)) 31 #[.pointer (some ⟨B, 0, none⟩)]
    rw [World.size_alloc] at this; exact this
  have hbz : Below w.heap.size w ((w.alloc (.cells #[.int .i64 0, .int .i64 0] 58)).alloc (.cells #[.pointer (some ⟨B, 0, none⟩)] 31)) := ((Below.refl w.heap.size w).alloc (Nat.le_refl _) _).alloc (by simp) _
  have hsz : ((w.alloc (.cells #[.int .i64 0, .int .i64 0] 58)).alloc (.cells #[.pointer (some ⟨B, 0, none⟩)] 31)).heap.size = w.heap.size + 2 := by simp
  have hP := h.below hbz
  have hSa : ∀ g, (Value.slice a p.steps.length cap).ownBlock = some g → g < w.heap.size := fun g hg => (World.ownsRow.lt h.ss.2 g hg).2
  have HSa := Lib.hid hSa
  have HBl := Lib.hid hBl
  clear hSa h hBl
  generalize ((w.alloc (.cells #[.int .i64 0, .int .i64 0] 58)).alloc (.cells #[.pointer (some ⟨B, 0, none⟩)] 31)) = wz at *
  have HSZ := Lib.hid hsz
  have HLT : Hid (∀ b, (b = w.heap.size + 1 ∨ b = B ∨ (Value.slice a p.steps.length cap).ownBlock = some b) → b < wz.heap.size) := Lib.hid fun b hb => by
    rcases hb with h1 | h1 | h1
    · omega
    · have := HBl.out; omega
    · have := HSa.out b h1; omega
  have HNS : Hid (¬ (w.heap.size = w.heap.size + 1 ∨ w.heap.size = B ∨ (Value.slice a p.steps.length cap).ownBlock = some w.heap.size)) := Lib.hid fun hb => by
    rcases hb with h1 | h1 | h1
    · omega
    · have := HBl.out; omega
    · have := HSa.out _ h1; omega
  refine range_tricks (w.heap.size + 1) B base p a cap vb (by decide) rfl (by simp) (by simp) (by decide) hp hRz hP (fun b => b = w.heap.size + 1 ∨ b = B ∨ (Value.slice a p.steps.length cap).ownBlock = some b) (.inl rfl) (.inr (.inl rfl)) (fun g hg => .inr (.inr hg))
    HLT.out
    (fun G pre W => Row W w.heap.size 58 #[.int .i64 (tkWon pre 0 : Int), .int .i64 (tkWon pre 1 : Int)] ∧ Below w.heap.size w W)
    (stable_and (stable_row (c := fun pre => #[.int .i64 (tkWon pre 0 : Int), .int .i64 (tkWon pre 1 : Int)]) (by omega)) (stable_below (by omega) (Nat.le_refl _))) ⟨hWn, hbz⟩ ?body ?done
  case body =>
    rintro l G pre x T W ⟨hW, hB⟩ hT hTw hG hszW hpre
    simp only [inTk, List.setIfInBounds_toArray, List.set]
    have t1 := hT.cell 1
    have d0 := hW.cell 0
    have d1 := hW.cell 1
    have f0 := hW.frozen 0
    have f1 := hW.frozen 1
    simp at t1 d0 d1
    have hle : ∀ s, tkWon pre s ≤ 60000 := fun s => by
      have h1 : tkWon pre s ≤ pre.length := List.length_filter_le _ _
      have h2 := hpre.length_le
      have h3 := tkTo_len p (p.steps.length / 4)
      rw [List.length_append] at h2
      unfold Ply.tks at h2
      omega
    have hl0 := hle 0
    have hl1 := hle 1
    have hn0 := tkWon_snoc pre x 0
    have hn1 := tkWon_snoc pre x 1
    have HN0 := Lib.hid hn0
    have HN1 := Lib.hid hn1
    clear hle hn0 hn1
    rcases (show x.win % 2 = 0 ∨ x.win % 2 = 1 by omega) with hw | hw
    · have hwI : (x.win : Int) % 2 = 0 := by omega
      have HW := Lib.hid hw
      clear hw
      generalize hq0 : tkWon pre 0 = q0 at *
      generalize hq1 : tkWon pre 1 = q1 at *
      gi_wp2
      refine ⟨keeps_set _ _ (by have := HSZ.out; simp only; omega), fun b hb => Below.heap_setCell _ _ _ b (by have := (hG b hb).2; have := HSZ.out; simp only; omega), (Kept.refl _ W).setCell HNS.out _, ?_, hB.setCell (Nat.le_refl _) _⟩
      have h9 := hW.set 0 (.int .i64 ((q0 : Int) + 1))
      rw [HN0.out, HN1.out, if_pos HW.out, if_neg (by have := HW.out; omega)]
      exact h9
    · have hwI : (x.win : Int) % 2 = 1 := by omega
      have HW := Lib.hid hw
      clear hw
      generalize hq0 : tkWon pre 0 = q0 at *
      generalize hq1 : tkWon pre 1 = q1 at *
      gi_wp2
      refine ⟨keeps_set _ _ (by have := HSZ.out; simp only; omega), fun b hb => Below.heap_setCell _ _ _ b (by have := (hG b hb).2; have := HSZ.out; simp only; omega), (Kept.refl _ W).setCell HNS.out _, ?_, hB.setCell (Nat.le_refl _) _⟩
      have h9 := hW.set 1 (.int .i64 ((q1 : Int) + 1))
      rw [HN0.out, HN1.out, if_neg (by have := HW.out; omega), if_pos HW.out]
      exact h9
  case done =>
    rintro D G W hD ⟨hW, hB⟩ hK
    have d0 := hW.cell 0
    have d1 := hW.cell 1
    simp at d0 d1
    gi_wp2
    gi_region
    gi_wp2
    have hK2 : W.drew.heap[D]? = some (.deferred (some [])) := hK
    refine ⟨by simp, .inl ⟨_, _, rfl, run_takeDeferred hK2, ?_⟩⟩
    exact ⟨_, results_tmp2 rfl _ _ _, rfl, hB.drew.trans (belowK_b (w := w) (Nat.le_refl _) W.drew D _ _ (by have := HSZ.out; omega) hK2 rfl rfl)⟩
/-- what Result returns -/
def Ply.resV (p : Ply) : Nat × Nat := if p.st.over then (tkWon p.tks (p.dc % 2), 0) else (0, 123)
theorem ply_result {w : World} {B base : Nat} {p : Ply} {vs vb : Value} (hp : p.ok) (h : PlyAt w B base p vs vb) :
    Calls Tryd.prog 19 #[.pointer (some ⟨B, 0, none⟩)] w fun e w' => e = .returned (.tuple #[.int .i64 (p.resV.1 : Int), .int .i64 (p.resV.2 : Int)]) ∧ Below w.heap.size w w' := by
  have HM := Lib.hid (ply_made hp h)
  have HO := Lib.hid (ply_over h)
  have HT := Lib.hid (ply_Tricks hp h)
  unfold Ply.resV
  cases ho : p.st.over
  · rw [ho] at HO
    go_enter Tryd.func19, Tryd.ntmps19
    go_wp2_with (first
      | (go_at_call 41; refine HM.out.mono ?_; rintro e w' ⟨rfl, rfl⟩)
      | (go_at_call 42; refine HO.out.mono ?_; rintro e w' ⟨rfl, rfl⟩))
    go_ret2
    exact ⟨rfl, Below.refl _ _⟩
  · rw [ho] at HO
    rw [if_pos rfl]
    have hdc := hp.dc
    rcases (show p.dc % 2 = 0 ∨ p.dc % 2 = 1 by omega) with hd | hd
    · rw [hd]
      have hdI : ((p.dc : Int) % 2 == 0) = true := by rw [beq_iff_eq]; omega
      go_enter Tryd.func19, Tryd.ntmps19
      go_wp2_with (first
        | (go_at_call 41; refine HM.out.mono ?_; rintro e w' ⟨rfl, rfl⟩)
        | (go_at_call 42; refine HO.out.mono ?_; rintro e w' ⟨rfl, rfl⟩)
        | (go_at_call 33; refine HT.out.mono ?_; rintro e w1 ⟨rfl, hb1⟩; have c13 : w1.cell? ⟨B, 13, none⟩ = some (.int .u8 (p.dc : Int)) := (h.row.below h.row.lt hb1).cell 13))
      go_ret2
      exact ⟨rfl, hb1⟩
    · rw [hd]
      have hdI : ((p.dc : Int) % 2 == 0) = false := by rw [beq_eq_false_iff_ne]; omega
      go_enter Tryd.func19, Tryd.ntmps19
      go_wp2_with (first
        | (go_at_call 41; refine HM.out.mono ?_; rintro e w' ⟨rfl, rfl⟩)
        | (go_at_call 42; refine HO.out.mono ?_; rintro e w' ⟨rfl, rfl⟩)
        | (go_at_call 33; refine HT.out.mono ?_; rintro e w1 ⟨rfl, hb1⟩; have c13 : w1.cell? ⟨B, 13, none⟩ = some (.int .u8 (p.dc : Int)) := (h.row.below h.row.lt hb1).cell 13))
      go_ret2
      exact ⟨rfl, hb1⟩
end Go.Proofs.YtginbellakkliaaDoor
