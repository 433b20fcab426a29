/- The law for 'for number, t := range rounds(r)' over this seat's program. -/
import Derived.Test.YtdlnilebnobllaaRevF
namespace Go.Proofs.Ytdlnilebnobllaa
open Go.RowKit Go.Shelf Go.Sort
attribute [local go_sem] Oper.semAt_some

/-- a round's cells -/
def rndC (a : Option Addr) (cap : Nat) (x : Rnd) : Array Value := #[.int .u64 (x.h 0 : Int), .int .u64 (x.h 1 : Int), .int .u64 (x.h 2 : Int), .int .u64 (x.h 3 : Int), .int .u8 (x.leader : Int), .int .u8 (x.winner : Int), cardsV a cap x.num x.cards.length]
theorem rndV_eq (a : Option Addr) (cap : Nat) (x : Rnd) : rndV a cap x = #[.int .i64 (x.num : Int), .agg (rndC a cap x)] := rfl
/-- the frame in a round: the number lies in slot p, the round in q, its block T in s -/
def inFr (t : Act) (p q s : Nat) (a : Option Addr) (cap : Nat) (x : Rnd) (T : Nat) : Act :=
  { tmps := ((t.tmps.setIfInBounds p (.int .i64 (x.num : Int))).setIfInBounds q (.agg (rndC a cap x))).setIfInBounds s (.pointer (some ⟨T, 0, none⟩)), defers := [] }

theorem seq_rounds {n R : Nat} {r : Rc} {a : Option Addr} {len cap : Nat} {w : World} (S : Nat → Prop) (hR : Row w R 27 (r.cells a len cap)) (hz : Byt w a len r.zs) (hok : r.ok len cap) (hRS : S R) (haS : ∀ ad, a = some ad → S ad.block) (hS : ∀ b, S b → b < w.heap.size) :
    SeqG Fence.wide n Try.prog 49 #[.pointer (some ⟨R, 0, none⟩)] (rndV a cap) S r.rnds w := by
  intro l J W hb hJ hY hJ0
  exact rounds1_in n l R S r a len cap J W (hR.below hR.lt hb) (hz.below (Nat.le_refl _) hb) hok hRS haS (fun b h => Nat.lt_of_lt_of_le (hS b h) hb.size) hJ hY hJ0

theorem range_rounds {n p q s id : Nat} {ps ps' : String} {body : Code} {g : Operand} {Q : Exit → Act → World → Prop} {t : Act} {w : World} (R : Nat) (r : Rc) (a : Option Addr) (len cap : Nat) (h1 : 1 ≤ n)
    (hg : t.eval g = .func (.func 49) #[] #[.pointer (some ⟨R, 0, none⟩)]) (hq : q < t.tmps.size) (hs : s < t.tmps.size) (hsq : s ≠ q)
    (hR : Row w R 27 (r.cells a len cap)) (hz : Byt w a len r.zs) (hok : r.ok len cap) (S : Nat → Prop) (hRS : S R) (haS : ∀ ad, a = some ad → S ad.block) (hS : ∀ b, S b → b < w.heap.size)
    (I : (Nat → Prop) → List Rnd → World → Prop) (hI : StableG w.heap.size I) (h0 : I noG [] w)
    (hbody : ∀ (l : Nat) (G : Nat → Prop) (pre : List Rnd) (x : Rnd) (T : Nat) (W : World), I G pre W → Row W T 79 (rndC a cap x) → w.heap.size ≤ T → (∀ b, G b → b < W.heap.size ∧ w.heap.size ≤ b) → w.heap.size ≤ W.heap.size → (pre ++ [x]) <+: r.rnds →
      body.wpIn (Fence.wide.inRound l) (n - 1 - 1) Try.prog (gPost w.heap.size S G I (pre ++ [x]) W) (inFr t p q s a cap x T) W)
    (hdone : ∀ (D : Nat) (G : Nat → Prop) (W : World), w.heap.size ≤ D → I G r.rnds W → W.heap[D]? = some (.deferred (some [])) → Q .normal { t with defers := { target := .collected D, args := #[] } :: t.defers } W) :
    (Code.rangeFunc g #[p, q] (Code.region id #[{ dst := some s, op := .alloc 79, type := 0, pos := ps, after := #[], guard := none }, { dst := none, op := .store 79 (.tmp s) (.tmp q), type := 0, pos := ps', after := #[{ on := 0, ground := Ground.data }, { on := 0, ground := Ground.phase }], guard := none }] false) body).wpIn Fence.wide n Try.prog Q t w := by
  refine wpIn_rangeFunc_G rfl h1 hg trivial (enters_of Try.func49 (by kernel_rfl) rfl) (seq_rounds S hR hz hok hRS haS hS) (Below.refl _ _) hS (fun _ => rfl) I hI h0
    (fun x W a' => ∃ T, a' = inFr t p q s a cap x T ∧ Row W T 79 (rndC a cap x) ∧ w.heap.size ≤ T) ?_ ?_ hdone
  · intro l x W K hsz hK
    refine wpIn_region_lit ?_
    rw [rndV_eq]
    simp only [List.zip_toArray, List.zip_cons_cons, List.zip_nil_left]
    simp [wpListIn, Oper.wpIn, go_sem, Oper.about, Oper.uponIn, execOp, Act.eval, Act.put, Exit.then]
    have hq' : (((t.tmps.setIfInBounds p (Value.int IntKind.i64 (x.num : Int))).setIfInBounds q (Value.agg (rndC a cap x))).setIfInBounds s (Value.pointer (some { block := W.heap.size, off := 0 })))[q]?.getD undef = Value.agg (rndC a cap x) := by
      rw [Array.getElem?_setIfInBounds_ne hsq, Array.getElem?_setIfInBounds_self_of_lt (by simpa using hq)]
      rfl
    rw [if_pos hs]
    simp only [hq']
    obtain ⟨ad, m, c, hcv⟩ : ∃ ad m c, cardsV a cap x.num x.cards.length = .slice ad m c := by
      unfold cardsV
      split
      · exact ⟨_, _, _, rfl⟩
      · split <;> exact ⟨_, _, _, rfl⟩
    simp [rndC, go_sem, hcv]
    refine hK _ _ ((Below.refl _ W).alloc (Nat.le_refl _) _) (fun l o o' hl ho hc => ⟨W.heap.size, ?_, ?_, ?_⟩)
    · simp only [inFr, rndC, hcv]
    · have hr := Row.new W 79 (rndC a cap x)
      simp only [rndC, hcv] at hr ⊢
      exact hr.same (World.putObj_heap_other (fun e => by subst e; rw [hr] at ho; injection ho with ho; rw [← ho] at hc; cases hc))
    · exact hsz
  · intro l G pre x a' W hi hAs hG hsz hpre
    obtain ⟨T, rfl, hT, hTw⟩ := hAs
    exact hbody l G pre x T W hi hT hTw hG hsz hpre
/-- the frame in a round: as inFr, the number in slot u, too -/
def inFr2 (t : Act) (p q u s : Nat) (a : Option Addr) (cap : Nat) (x : Rnd) (T : Nat) : Act :=
  { tmps := (((t.tmps.setIfInBounds p (.int .i64 (x.num : Int))).setIfInBounds q (.agg (rndC a cap x))).setIfInBounds u (.int .i64 (x.num : Int))).setIfInBounds s (.pointer (some ⟨T, 0, none⟩)), defers := [] }
theorem range_rounds2 {n p q s u id id' : Nat} {ps ps' pu : String} {ty : TypeId} {body : Code} {g : Operand} {Q : Exit → Act → World → Prop} {t : Act} {w : World} (R : Nat) (r : Rc) (a : Option Addr) (len cap : Nat) (h1 : 1 ≤ n)
    (hg : t.eval g = .func (.func 49) #[] #[.pointer (some ⟨R, 0, none⟩)]) (hp : p < t.tmps.size) (hq : q < t.tmps.size) (hs : s < t.tmps.size) (hpq : q ≠ p) (huq : u ≠ q) (hsq : s ≠ q)
    (hR : Row w R 27 (r.cells a len cap)) (hz : Byt w a len r.zs) (hok : r.ok len cap) (S : Nat → Prop) (hRS : S R) (haS : ∀ ad, a = some ad → S ad.block) (hS : ∀ b, S b → b < w.heap.size)
    (I : (Nat → Prop) → List Rnd → World → Prop) (hI : StableG w.heap.size I) (h0 : I noG [] w)
    (hbody : ∀ (l : Nat) (G : Nat → Prop) (pre : List Rnd) (x : Rnd) (T : Nat) (W : World), I G pre W → Row W T 79 (rndC a cap x) → w.heap.size ≤ T → (∀ b, G b → b < W.heap.size ∧ w.heap.size ≤ b) → w.heap.size ≤ W.heap.size → (pre ++ [x]) <+: r.rnds →
      body.wpIn (Fence.wide.inRound l) (n - 1 - 1) Try.prog (gPost w.heap.size S G I (pre ++ [x]) W) (inFr2 t p q u s a cap x T) W)
    (hdone : ∀ (D : Nat) (G : Nat → Prop) (W : World), w.heap.size ≤ D → I G r.rnds W → W.heap[D]? = some (.deferred (some [])) → Q .normal { t with defers := { target := .collected D, args := #[] } :: t.defers } W) :
    (Code.rangeFunc g #[p, q] ((Code.region id' #[{ dst := some u, op := .assign (.tmp p), type := ty, pos := pu, after := #[], guard := none }] false).seq (Code.region id #[{ dst := some s, op := .alloc 79, type := 0, pos := ps, after := #[], guard := none }, { dst := none, op := .store 79 (.tmp s) (.tmp q), type := 0, pos := ps', after := #[{ on := 0, ground := Ground.data }, { on := 0, ground := Ground.phase }], guard := none }] false)) body).wpIn Fence.wide n Try.prog Q t w := by
  refine wpIn_rangeFunc_G rfl h1 hg trivial (enters_of Try.func49 (by kernel_rfl) rfl) (seq_rounds S hR hz hok hRS haS hS) (Below.refl _ _) hS (fun _ => rfl) I hI h0
    (fun x W a' => ∃ T, a' = inFr2 t p q u s a cap x T ∧ Row W T 79 (rndC a cap x) ∧ w.heap.size ≤ T) ?_ ?_ hdone
  · intro l x W K hsz hK
    rw [rndV_eq]
    simp only [List.zip_toArray, List.zip_cons_cons, List.zip_nil_left]
    refine wpIn_seq ?_
    refine wpIn_region_lit ?_
    have hp' : ((t.tmps.setIfInBounds p (Value.int IntKind.i64 (x.num : Int))).setIfInBounds q (Value.agg (rndC a cap x)))[p]?.getD undef = Value.int IntKind.i64 (x.num : Int) := by
      rw [Array.getElem?_setIfInBounds_ne hpq, Array.getElem?_setIfInBounds_self_of_lt hp]
      rfl
    simp [wpListIn, Oper.wpIn, go_sem, Oper.about, Oper.uponIn, execOp, Act.eval, Act.put, Exit.then]
    simp only [hp']
    refine wpIn_region_lit ?_
    simp [wpListIn, Oper.wpIn, go_sem, Oper.about, Oper.uponIn, execOp, Act.eval, Act.put, Exit.then]
    have hq' : ((((t.tmps.setIfInBounds p (Value.int IntKind.i64 (x.num : Int))).setIfInBounds q (Value.agg (rndC a cap x))).setIfInBounds u (Value.int IntKind.i64 (x.num : Int))).setIfInBounds s (Value.pointer (some { block := W.heap.size, off := 0 })))[q]?.getD undef = Value.agg (rndC a cap x) := by
      rw [Array.getElem?_setIfInBounds_ne hsq, Array.getElem?_setIfInBounds_ne huq, Array.getElem?_setIfInBounds_self_of_lt (by simpa using hq)]
      rfl
    rw [if_pos hs]
    simp only [hq']
    obtain ⟨ad, m, c, hcv⟩ : ∃ ad m c, cardsV a cap x.num x.cards.length = .slice ad m c := by
      unfold cardsV
      split
      · exact ⟨_, _, _, rfl⟩
      · split <;> exact ⟨_, _, _, rfl⟩
    simp [rndC, go_sem, hcv]
    refine hK _ _ ((Below.refl _ W).alloc (Nat.le_refl _) _) (fun l o o' hl ho hc => ⟨W.heap.size, ?_, ?_, ?_⟩)
    · simp only [inFr2, rndC, hcv]
    · have hr := Row.new W 79 (rndC a cap x)
      simp only [rndC, hcv] at hr ⊢
      exact hr.same (World.putObj_heap_other (fun e => by subst e; rw [hr] at ho; injection ho with ho; rw [← ho] at hc; cases hc))
    · exact hsz
  · intro l G pre x a' W hi hAs hG hsz hpre
    obtain ⟨T, rfl, hT, hTw⟩ := hAs
    exact hbody l G pre x T W hi hT hTw hG hsz hpre
theorem stable_below {β : Type} {B n : Nat} {w : World} (h : n ≤ B) (hn : n ≤ w.heap.size) : StableG (β := β) B (fun _ _ W => Below n w W) := by
  intro G G' s W W' hi hm _ _
  refine ⟨hm.base.os.trans hi.os, hm.base.tape.trans hi.tape, hm.base.output.trans hi.output, Nat.le_trans hi.size hm.base.size, fun k hk => ?_⟩
  rcases hm.block k (by have := hi.size; omega) with h1 | ⟨h1, _⟩
  · exact h1.trans (hi.block k hk)
  · omega
theorem stable_row {β : Type} {B b : Nat} {t : TypeId} {c : β → Array Value} (h : b < B) : StableG B (fun _ s W => Row W b t (c s)) := by
  intro G G' s W W' hi hm _ _
  rcases hm.block b hi.lt with h1 | ⟨h1, _⟩
  · exact hi.same h1
  · omega
theorem stable_and {β : Type} {B : Nat} {I J : (Nat → Prop) → β → World → Prop} (hi : StableG B I) (hj : StableG B J) : StableG B (fun G s W => I G s W ∧ J G s W) :=
  fun G G' s W W' h hm h1 h2 => ⟨hi G G' s W W' h.1 hm h1 h2, hj G G' s W W' h.2 hm h1 h2⟩
theorem keeps_set {B : Nat} (W : World) {p : Addr} (v : Value) (hp : p.block < B) : KeepsFrom B W (W.setCell p v) :=
  ⟨by simp [World.setCell], fun k o hk ho _ => (Below.heap_setCell W p v k (fun e => by omega)).trans ho⟩
theorem keeps_refl {B : Nat} (W : World) : KeepsFrom B W W := ⟨Nat.le_refl _, fun _ _ _ ho _ => ho⟩
theorem rnds_nil_of {t num ld : Nat} {h : Nat → Nat} : rnds t num h ld [] = [] := by simp [rnds]
theorem sumTo_rnds (t : Nat) : ∀ (n num : Nat) (h : Nat → Nat) (ld : Nat) (zs : List Nat), zs.length ≤ n → sumTo (rnds t num h ld zs) ≤ zs.length
  | 0, num, h, ld, zs, hn => by
    have : zs = [] := List.eq_nil_of_length_eq_zero (by omega)
    subst this; simp [rnds_nil_of, sumTo]
  | n + 1, num, h, ld, zs, hn => by
    by_cases h0 : zs = []
    · subst h0; simp [rnds_nil_of, sumTo]
    · by_cases h4 : (takeT ld h 0 (zs.take 4)).2 = 4
      · rw [rnds_full h4]
        have hle := (takeT_le ld (zs.take 4) h 0).2
        rw [h4, List.length_take] at hle
        have ih := sumTo_rnds t n (num + 1) (takeT ld h 0 (zs.take 4)).1 (seatV t ld (zs.take 4)).1 (zs.drop 4) (by rw [List.length_drop]; omega)
        rw [List.length_drop] at ih
        simp only [sumTo, List.map_cons, List.sum_cons, List.length_take] at *
        omega
      · rw [rnds_part h0 h4]
        simp only [sumTo, List.map_cons, List.sum_cons, List.map_nil, List.sum_nil, List.length_take]
        omega
theorem sumTo_le {r : Rc} {pre : List Rnd} (h : pre <+: r.rnds) : sumTo pre ≤ r.zs.length := by
  obtain ⟨m, hm⟩ := h
  have h1 := sumTo_rnds r.t r.zs.length 0 r.h ((r.d + 1) % 4) r.zs (Nat.le_refl _)
  have h2 : sumTo r.rnds = sumTo pre + sumTo m := by rw [← hm]; simp [sumTo]
  have h3 : sumTo r.rnds ≤ r.zs.length := h1
  omega
theorem takeT_w64 (ld : Nat) : ∀ (l : List Nat) (h : Nat → Nat) (i : Nat), (∀ s, W64 (h s)) → ∀ s, W64 ((takeT ld h i l).1 s)
  | [], h, i, hw, s => hw s
  | c :: cs, h, i, hw, s => by
    unfold takeT
    split
    · refine takeT_w64 ld cs _ _ (fun s' => ?_) s
      unfold setH
      split
      · exact (hw _).landn
      · exact hw s'
    · exact hw s
theorem stable_byt {β : Type} {B : Nat} {a : Option Addr} {len : Nat} {zs : List Nat} (ha : ∀ ad, a = some ad → ad.block < B) : StableG (β := β) B (fun _ _ W => Byt W a len zs) := by
  intro G G' s W W' hi hm _ _
  refine ⟨hi.length, hi.small, hi.byte, ?_⟩
  rcases hi.cells with h | ⟨b, off, rfl, hb, hc⟩
  · exact .inl h
  · have hbl : W'.heap[b]? = W.heap[b]? := by
      rcases hm.block b hb with h | ⟨h, _⟩
      · exact h
      · have := ha _ rfl; simp at this; omega
    refine .inr ⟨b, off, rfl, Nat.lt_of_lt_of_le hb hm.base.size, fun i hi' => ?_⟩
    rw [← hc i hi']
    simp only [World.cell?, hbl]
/-- what is known of a round -/
theorem rnd_in (t : Nat) : ∀ (n num : Nat) (h : Nat → Nat) (ld : Nat) (zs : List Nat) (x : Rnd), zs.length ≤ n → x ∈ rnds t num h ld zs → (∀ s, W64 (h s)) → ld < 4 →
    ∃ k, x.num = num + k ∧ x.cards <+: zs.drop (4 * k) ∧ x.cards.length ≤ 4 ∧ x.leader < 4 ∧ (∀ s, W64 (x.h s)) ∧ x.winner < 4
  | 0, num, h, ld, zs, x, hn, hx, hw, hl => by
    have : zs = [] := List.eq_nil_of_length_eq_zero (by omega)
    subst this; simp [rnds_nil_of] at hx
  | n + 1, num, h, ld, zs, x, hn, hx, hw, hl => by
    by_cases h0 : zs = []
    · subst h0; simp [rnds_nil_of] at hx
    · by_cases h4 : (takeT ld h 0 (zs.take 4)).2 = 4
      · rw [rnds_full h4] at hx
        rcases List.mem_cons.1 hx with rfl | hx
        · exact ⟨0, rfl, by simpa using List.take_prefix 4 zs, by simp; omega, hl, hw, seatV_lt _ _ _⟩
        · have hzl : 4 ≤ zs.length := by
            have := (takeT_le ld (zs.take 4) h 0).2
            rw [h4, List.length_take] at this; omega
          have hw' : ∀ s, W64 ((takeT ld h 0 (zs.take 4)).1 s) := takeT_w64 ld (zs.take 4) h 0 hw
          obtain ⟨k, h1, h2, h3⟩ := rnd_in t n (num + 1) _ _ _ x (by rw [List.length_drop]; omega) hx hw' (seatV_lt _ _ _)
          refine ⟨k + 1, by omega, ?_, h3⟩
          rw [List.drop_drop] at h2
          rwa [show 4 * (k + 1) = 4 + 4 * k by omega]
      · rw [rnds_part h0 h4] at hx
        simp only [List.mem_singleton] at hx
        subst hx
        exact ⟨0, rfl, by simpa using (List.take_prefix _ _).trans (List.take_prefix 4 zs), by simp; omega, hl, hw, by simp⟩
theorem Byt.kept {S : Nat → Prop} {W W' : World} {a : Option Addr} {len : Nat} {zs : List Nat} (h : Byt W a len zs) (ha : ∀ ad, a = some ad → S ad.block) (hk : Kept S W W') : Byt W' a len zs := by
  refine ⟨h.length, h.small, h.byte, ?_⟩
  rcases h.cells with h | ⟨b, off, rfl, hb, hc⟩
  · exact .inl h
  · exact .inr ⟨b, off, rfl, Nat.lt_of_lt_of_le hb hk.size, fun i hi => (hk.cell (p := ⟨b, off + i, none⟩) (ha ⟨b, off, none⟩ rfl) hb).trans (hc i hi)⟩
theorem rnd_cards {w : World} {r : Rc} {a : Option Addr} {len cap : Nat} {pre : List Rnd} {x : Rnd} (hz : Byt w a len r.zs) (hx : (pre ++ [x]) <+: r.rnds) : ∃ ad c, cardsV a cap x.num x.cards.length = .slice ad x.cards.length c := by
  refine cardsV_slice _ _ _ _ (fun ha => ?_)
  have h0 : r.zs = [] := by
    rcases hz.cells with h | ⟨b, off, h, _⟩
    · exact List.eq_nil_of_length_eq_zero (hz.length.trans h)
    · rw [ha] at h; cases h
  obtain ⟨m, hm⟩ := hx
  have := congrArg List.length hm
  simp [Rc.rnds, h0, rnds_nil_of] at this
theorem rnds_nums (t : Nat) : ∀ (n num : Nat) (h : Nat → Nat) (ld : Nat) (zs : List Nat) (x : Rnd), zs.length ≤ n → x ∈ rnds t num h ld zs → x.num < num + zs.length
  | 0, num, h, ld, zs, x, hn, hx => by
    have : zs = [] := List.eq_nil_of_length_eq_zero (by omega)
    subst this; simp [rnds_nil_of] at hx
  | n + 1, num, h, ld, zs, x, hn, hx => by
    by_cases h0 : zs = []
    · subst h0; simp [rnds_nil_of] at hx
    · have hpos : 0 < zs.length := List.length_pos_iff.2 h0
      by_cases h4 : (takeT ld h 0 (zs.take 4)).2 = 4
      · rw [rnds_full h4] at hx
        rcases List.mem_cons.1 hx with rfl | hx
        · simp only; omega
        · have := rnds_nums t n (num + 1) _ _ _ x (by rw [List.length_drop]; omega) hx
          rw [List.length_drop] at this; omega
      · rw [rnds_part h0 h4] at hx
        simp only [List.mem_singleton] at hx
        subst hx
        simp only; omega
theorem rnd_num {w : World} {r : Rc} {a : Option Addr} {len : Nat} {pre : List Rnd} {x : Rnd} (hz : Byt w a len r.zs) (hx : (pre ++ [x]) <+: r.rnds) : x.num ≤ len := by
  have := rnds_nums r.t r.zs.length 0 r.h ((r.d + 1) % 4) r.zs x (Nat.le_refl _) (hx.subset (by simp))
  rw [hz.length] at this; omega
/-- the slice of a round's cards reads as they are -/
theorem rnd_byt {w : World} {r : Rc} {a : Option Addr} {len cap : Nat} {pre : List Rnd} {x : Rnd} (hz : Byt w a len r.zs) (hok : r.ok len cap) (hx : (pre ++ [x]) <+: r.rnds) :
    ∃ ad c, cardsV a cap x.num x.cards.length = .slice ad x.cards.length c ∧ Byt w ad x.cards.length x.cards ∧ x.cards.length ≤ 4 ∧ x.leader < 4 ∧ (∀ s, W64 (x.h s)) ∧ x.winner < 4 ∧ x.num ≤ len ∧ (∀ ad0, ad = some ad0 → ∃ a0, a = some a0 ∧ ad0.block = a0.block) := by
  have hmem : x ∈ r.rnds := hx.subset (by simp)
  obtain ⟨k, h1, h2, h3, h4, h5, h6⟩ := rnd_in r.t r.zs.length 0 r.h ((r.d + 1) % 4) r.zs x (Nat.le_refl _) hmem hok.h (Nat.mod_lt _ (by omega))
  have hk : x.num = k := by omega
  subst hk
  have hlen := h2.length_le
  rw [List.length_drop, hz.length] at hlen
  have hg : ∀ i, i < x.cards.length → x.cards.getD i 0 = r.zs.getD (4 * x.num + i) 0 := by
    intro i hi
    obtain ⟨m, hm⟩ := h2
    have : (r.zs.drop (4 * x.num)).getD i 0 = x.cards.getD i 0 := by
      rw [← hm, List.getD_eq_getElem?_getD, List.getD_eq_getElem?_getD, List.getElem?_append_left hi]
    rw [← this]; simp [List.getD_eq_getElem?_getD, List.getElem?_drop]
  have hsm := hz.small
  have hby : ∀ i, x.cards.getD i 0 < 256 := by
    intro i
    by_cases hi : i < x.cards.length
    · rw [hg i hi]; exact hz.byte _
    · rw [List.getD_eq_getElem?_getD, List.getElem?_eq_none (by omega)]; simp
  by_cases h0 : x.cards.length = 0
  · refine ⟨none, 0, ?_, ⟨rfl, by omega, hby, .inl h0⟩, h3, h4, h5, h6, rnd_num hz hx, fun _ h => by cases h⟩
    rw [h0]; unfold cardsV; split <;> rfl
  · obtain ⟨b, off, rfl, hb, hcs⟩ := hz.at (by omega)
    refine ⟨some ⟨b, off + 4 * x.num, none⟩, cap - 4 * x.num, by simp only [cardsV]; rw [if_neg h0], ⟨rfl, by omega, hby, .inr ⟨b, off + 4 * x.num, rfl, hb, fun i hi => ?_⟩⟩, h3, h4, h5, h6, by omega, fun ad0 h => ⟨_, rfl, by cases h; rfl⟩⟩
    rw [hg i hi, Nat.add_assoc]
    exact hcs (4 * x.num + i) (by omega)
end Go.Proofs.Ytdlnilebnobllaa
