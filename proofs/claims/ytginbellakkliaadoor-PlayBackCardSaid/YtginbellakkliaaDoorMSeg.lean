/- QTail, Seg in one text. -/
import Derived.StillTail
import Derived.Lib.QuietBelow
import Derived.WalkKit
import Derived.BigQuiet

/- A region that draws its order: all operations but the last ones read, or call what only makes memory; the last ones stand in one forced order. No program in sight. -/
namespace Go.Proofs.YtginbellakkliaaDoor
open Go.RowKit Go.Sort

section
variable {P : Program} {ops : Array Oper} {md : Region.Mode} {C : World → Prop}

/-- whatever order is picked for the head -/
def headAny (P : Program) (md : Region.Mode) (ops : Array Oper) (C : World → Prop) (n : Nat) (L : Array Bool → Act → Prop) : Nat → Array Bool → Act → Prop
  | 0, listed, a => L listed a
  | f + 1, listed, a => Region.ready md ops listed ≠ [] ∧ ∀ i ∈ Region.ready md ops listed, i < n ∧ qOp P ops C i (headAny P md ops C n L f (listed.setIfInBounds i true)) a

theorem any_of_headAny {n g : Nat} {L : Array Bool → Act → Prop} {Q : Exit → Act → World → Prop} (hL : ∀ listed a w, C w → L listed a → wpAny P md ops Q g listed a w) :
    ∀ (f : Nat) (listed : Array Bool) (a : Act) (w : World), C w → headAny P md ops C n L f listed a → wpAny P md ops Q (f + g) listed a w
  | 0, listed, a, w, hw, h => by rw [Nat.zero_add]; exact hL _ _ _ hw h
  | f + 1, listed, a, w, hw, h => by
    rw [show f + 1 + g = (f + g) + 1 by omega]
    exact ⟨fun h0 => absurd h0 h.1, fun i hi => wpOp_of_qOp hw (fun a' w' hw' h' => any_of_headAny hL f _ a' w' hw' h') (h.2 i hi).2⟩

theorem headAny_first {n i : Nat} {oi : Oper} {v : Value} {L : Array Bool → Act → Prop} (hi : ops[i]? = some oi) (hsel : ∀ (j : Nat) (o : Oper) cs b, ops[j]? = some o → o.op ≠ .select cs b)
    (hs : Region.sinkB md ops n = true) (hc : Region.chainB md ops n = true) (hn : n < ops.size) (hin : i < n) (hdone : ∀ listed a, L listed a → ∀ j ∈ Region.ready md ops listed, n ≤ j) :
    ∀ (f : Nat) (listed : Array Bool) (a : Act), HeadInv md ops n listed →
      (∀ j oj, ops[j]? = some oj → j ≠ i → listed.getD j true = false → (∀ e ∈ oj.after, Region.binds md e = true → e.on ≠ i) → oi.apart ops oj = true) →
      i ∈ Region.ready md ops listed → YieldsIn P ops C oi v a → headAny P md ops C n L f (listed.setIfInBounds i true) (a.put oi.dst v) → headAny P md ops C n L (f + 1) listed a
  | 0, listed, a, inv, _, hr, hy, H => by
    refine ⟨fun h => (by rw [h] at hr; cases hr), fun j hj => ?_⟩
    have hjn : j < n := Nat.lt_of_not_le fun h => absurd hj (tail_waits hs hc hn inv _ i rfl hin (mem_ready.1 hr).1 j h)
    refine ⟨hjn, ?_⟩
    by_cases hji : j = i
    · subst hji; exact hy.qOp hi H
    · have := hdone _ _ H j (ready_mono hj hji); omega
  | f + 1, listed, a, inv, hfree, hr, hy, H => by
    refine ⟨fun h => (by rw [h] at hr; cases hr), fun j hj => ?_⟩
    have hun := (mem_ready.1 hr).1
    have hjn : j < n := Nat.lt_of_not_le fun h => absurd hj (tail_waits hs hc hn inv _ i rfl hin hun j h)
    refine ⟨hjn, ?_⟩
    by_cases hji : j = i
    · subst hji; exact hy.qOp hi H
    · obtain ⟨hjun, oj, hoj, hall⟩ := mem_ready.1 hj
      have hnot : ∀ e ∈ oj.after, Region.binds md e = true → e.on ≠ i := fun e he hb heq => by
        have h1 := hall e he hb
        rw [heq, getD_both hun] at h1
        cases h1
      refine qOp_mono (fun a' h3 => headAny_first hi hsel hs hc hn hin hdone f (listed.setIfInBounds j true) a' (inv.set hj hjn) (fun k ok hk hki hun' hno => hfree k ok hk hki ?_ hno) (ready_mono hr (Ne.symm hji)) h3.1 (by rw [Array.setIfInBounds_comm _ _ hji]; exact h3.2))
        (qOp_put hoj (hfree j oj hoj hji hjun hnot) (fun cs b => hsel i oi cs b hi) (fun cs b => hsel j oj cs b hoj) hy (H.2 j (ready_mono hj hji)).2)
      by_cases hjk : j = k
      · subst hjk; exact hjun
      · rwa [getD_set_ne true hjk] at hun'

theorem headAny_lex {n g : Nat} {Lq : Act → Prop} (hsel : Region.noSelect ops = true) (hs : Region.sinkB md ops n = true) (hc : Region.chainB md ops n = true) (hn : n < ops.size) :
    ∀ (l : List Oper) (k : Nat) (listed : Array Bool) (a : Act), (∀ j, j < l.length → l[j]? = ops[k + j]?) → k + l.length = n → HeadInv md ops n listed → Region.lexHead md ops g l.length k listed = true → wpQuiet P ops C Lq l a →
    headAny P md ops C n (fun listed' a' => Region.seqB md ops g n listed' = true ∧ Lq a') l.length listed a
  | [], k, listed, a, _, hk, _, hB, h => by
    obtain rfl : k = n := by simpa using hk
    exact ⟨by simpa [Region.lexHead] using hB, h⟩
  | o :: l, k, listed, a, hl, hk, inv, hB, h => by
    have h0 : ops[k]? = some o := by simpa using (hl 0 (by simp)).symm
    simp only [List.length_cons, Region.lexHead, Bool.and_eq_true] at hB hk
    obtain ⟨⟨hr, hf⟩, hB'⟩ := hB
    have hr' : k ∈ Region.ready md ops listed := by simpa using hr
    obtain ⟨v, hy, hK⟩ := yieldsIn_of_qOp h0 (K := wpQuiet P ops C Lq l) (a := a) (by unfold qOp; simp only [h0]; exact h)
    exact headAny_first h0 (Region.noSelect_spec hsel) hs hc hn (by omega) (fun listed' a' hL => seqB_ready hL.1) l.length listed a inv (Region.free_spec h0 hf) hr' hy
      (headAny_lex hsel hs hc hn l (k + 1) _ _ (fun j hj => by have := hl (j + 1) (by simp; omega); simpa [Nat.add_assoc, Nat.add_comm 1 j] using this) (by omega) (inv.set hr' (by omega)) hB' hK)

theorem wp_region_quiet_tail {id : Nat} {Q : Exit → Act → World → Prop} {a : Act} {w : World} {l : List Oper} (n : Nat) (hm : P.follows .mixedOrders = true) (hB : Region.lexTailB .any l.toArray n = true) (hC : C { w with drawn := w.drawn + 1 })
    (h : wpQuiet P l.toArray C (fun a' => ∀ w', C w' → wpList P l.toArray Q (l.drop n) a' w') (l.take n) a) : (Code.region id l.toArray true).wp P Q a w := by
  simp only [Region.lexTailB, Bool.and_eq_true, decide_eq_true_eq] at hB
  obtain ⟨⟨⟨⟨hsel, hn⟩, hs⟩, hc⟩, hlex⟩ := hB
  have hn' : n < l.length := by simpa using hn
  have htl : (l.take n).length = n := by simp; omega
  have hdl : (l.drop n).length = l.toArray.size - n := by simp
  have inv0 : HeadInv .any l.toArray n (Array.replicate l.toArray.size false) :=
    ⟨by simp, fun j oj _ hl => (by rw [getD_replicate_false] at hl; cases hl), fun t _ ht => getD_in (by simpa using ht) (getD_replicate_false _ _)⟩
  have H := headAny_lex (md := .any) (g := l.toArray.size - n) hsel hs hc hn (l.take n) 0 _ a (fun j hj => by
    rw [htl] at hj
    simp [hj]) (by simpa using htl) inv0 (by rw [htl]; exact hlex) h
  refine wp_region_any hm ?_
  have := any_of_headAny (Q := Q) (g := l.toArray.size - n) (fun listed a' w' hw' hL => by
    have := wpAny_of_seq (md := .any) (Q' := Q) (l.drop n) n listed a' w' (fun j => by simp [List.getElem?_drop]) (by rw [hdl]; exact hL.1) (hL.2 w' hw')
    rwa [hdl] at this) _ _ _ _ hC H
  rwa [htl, show n + (l.toArray.size - n) = l.toArray.size by omega] at this

theorem wp_region_below_tail {id : Nat} {Q : Exit → Act → World → Prop} {a : Act} {w : World} {l : List Oper} (n : Nat) (hm : P.follows .mixedOrders = true) (hB : Region.lexTailB .any l.toArray n = true)
    (h : wpQuiet P l.toArray (fun w' => ∃ p : Regrown, w' = grow (redrawn w p.d) p.os) (fun a' => ∀ w', (∃ p : Regrown, w' = grow (redrawn w p.d) p.os) → wpList P l.toArray Q (l.drop n) a' w') (l.take n) a) : (Code.region id l.toArray true).wp P Q a w :=
  wp_region_quiet_tail (C := fun w' => ∃ p : Regrown, w' = grow (redrawn w p.d) p.os) n hm hB ⟨⟨w.drawn + 1, #[]⟩, by rw [grow_empty]; rfl⟩ h
end
end Go.Proofs.YtginbellakkliaaDoor

/- A region that draws its order and falls into segments: in some the operations stand in one forced order, in the others all are quiet. No program in sight. -/
namespace Go.Proofs.YtginbellakkliaaDoor
open Go.RowKit Go.Sort

section
variable {P : Program} {ops : Array Oper} {md : Region.Mode} {C : World → Prop}

/-- all operations behind n wait for one from n on -/
def backB (md : Region.Mode) (ops : Array Oper) (n : Nat) : Bool :=
  (List.range ops.size).all fun t => decide (t ≤ n) || (List.range t).any fun m => decide (n ≤ m) && Region.waitsFor md ops t m
/-- no operation from n on is ready before all ahead of it are done -/
def bndB (md : Region.Mode) (ops : Array Oper) (n : Nat) : Bool := decide (ops.size ≤ n) || (Region.sinkB md ops n && backB md ops n)

theorem bnd_waits {n : Nat} {listed : Array Bool} (hb : bndB md ops n = true) (inv : HeadInv md ops n listed) :
    ∀ (d i : Nat), n - i = d → i < n → listed.getD i true = false → ∀ t, n ≤ t → t ∉ Region.ready md ops listed := by
  intro d
  induction d using Nat.strongRecOn with
  | _ d ih =>
    intro i hd hi hun t ht hr
    have htl : t < ops.size := by
      obtain ⟨_, ot, hot, _⟩ := mem_ready.1 hr
      exact (Array.getElem?_eq_some_iff.1 hot).1
    simp only [bndB, Bool.or_eq_true, decide_eq_true_eq, Bool.and_eq_true] at hb
    rcases hb with hb | ⟨hs, hc⟩
    · omega
    have hs' := hs
    simp only [Region.sinkB, List.all_eq_true, List.mem_range, List.any_eq_true, Bool.and_eq_true, decide_eq_true_eq] at hs
    obtain ⟨j, hj, hij, hw⟩ := hs i hi
    obtain ⟨oj, hoj, e, he, heb, hei⟩ := Region.waitsFor_spec hw
    by_cases hjn : j < n
    · have hjun : listed.getD j true = false := by
        cases hl : listed.getD j true
        · rfl
        · have hjs : j < listed.size := by rw [inv.size]; exact (Array.getElem?_eq_some_iff.1 hoj).1
          have hl2 : listed.getD j false = true := by
            simp [hjs] at hl ⊢; exact hl
          have := inv.closed j oj hoj hl2 e he heb
          rw [hei, getD_both hun] at this; cases this
      exact ih (n - j) (by omega) j rfl hjn hjun t ht hr
    · have hjn2 : j = n := by omega
      subst hjn2
      obtain ⟨_, ot, hot, hall⟩ := mem_ready.1 hr
      by_cases htn : t = j
      · subst htn
        rw [hoj] at hot; injection hot with hot; subst hot
        have := hall e he heb
        rw [hei, getD_both hun] at this; cases this
      · simp only [backB, List.all_eq_true, List.mem_range, Bool.or_eq_true, decide_eq_true_eq, List.any_eq_true, Bool.and_eq_true] at hc
        rcases hc t htl with h | ⟨m, hm, hnm, hwm⟩
        · omega
        · obtain ⟨ot', hot', e', he', heb', hem⟩ := Region.waitsFor_spec hwm
          rw [hot] at hot'; injection hot' with hot'; subst hot'
          have h1 := hall e' he' heb'
          rw [hem] at h1
          have h2 := getD_both (inv.tail m hnm (by omega))
          rw [h2] at h1; cases h1

theorem segAny_first {n i : Nat} {oi : Oper} {v : Value} {L : Array Bool → Act → Prop} (hi : ops[i]? = some oi) (hsel : ∀ (j : Nat) (o : Oper) cs b, ops[j]? = some o → o.op ≠ .select cs b)
    (hb : bndB md ops n = true) (hin : i < n) (hdone : ∀ listed a, L listed a → ∀ j ∈ Region.ready md ops listed, n ≤ j) :
    ∀ (f : Nat) (listed : Array Bool) (a : Act), HeadInv md ops n listed →
      (∀ j oj, ops[j]? = some oj → j ≠ i → listed.getD j true = false → (∀ e ∈ oj.after, Region.binds md e = true → e.on ≠ i) → oi.apart ops oj = true) →
      i ∈ Region.ready md ops listed → YieldsIn P ops C oi v a → headAny P md ops C n L f (listed.setIfInBounds i true) (a.put oi.dst v) → headAny P md ops C n L (f + 1) listed a
  | 0, listed, a, inv, _, hr, hy, H => by
    refine ⟨fun h => (by rw [h] at hr; cases hr), fun j hj => ?_⟩
    have hjn : j < n := Nat.lt_of_not_le fun h => absurd hj (bnd_waits hb inv _ i rfl hin (mem_ready.1 hr).1 j h)
    refine ⟨hjn, ?_⟩
    by_cases hji : j = i
    · subst hji; exact hy.qOp hi H
    · have := hdone _ _ H j (ready_mono hj hji); omega
  | f + 1, listed, a, inv, hfree, hr, hy, H => by
    refine ⟨fun h => (by rw [h] at hr; cases hr), fun j hj => ?_⟩
    have hun := (mem_ready.1 hr).1
    have hjn : j < n := Nat.lt_of_not_le fun h => absurd hj (bnd_waits hb inv _ i rfl hin hun j h)
    refine ⟨hjn, ?_⟩
    by_cases hji : j = i
    · subst hji; exact hy.qOp hi H
    · obtain ⟨hjun, oj, hoj, hall⟩ := mem_ready.1 hj
      have hnot : ∀ e ∈ oj.after, Region.binds md e = true → e.on ≠ i := fun e he hb heq => by
        have h1 := hall e he hb
        rw [heq, getD_both hun] at h1
        cases h1
      refine qOp_mono (fun a' h3 => segAny_first hi hsel hb hin hdone f (listed.setIfInBounds j true) a' (inv.set hj hjn) (fun k ok hk hki hun' hno => hfree k ok hk hki ?_ hno) (ready_mono hr (Ne.symm hji)) h3.1 (by rw [Array.setIfInBounds_comm _ _ hji]; exact h3.2))
        (qOp_put hoj (hfree j oj hoj hji hjun hnot) (fun cs b => hsel i oi cs b hi) (fun cs b => hsel j oj cs b hoj) hy (H.2 j (ready_mono hj hji)).2)
      by_cases hjk : j = k
      · subst hjk; exact hjun
      · rwa [getD_set_ne true hjk] at hun'

/-- n operations from k on are done -/
def setN : Nat → Nat → Array Bool → Array Bool
  | 0, _, listed => listed
  | n + 1, k, listed => setN n (k + 1) (listed.setIfInBounds k true)
def lexN (md : Region.Mode) (ops : Array Oper) : Nat → Nat → Array Bool → Bool
  | 0, _, _ => true
  | f + 1, k, listed => (Region.ready md ops listed).contains k && Region.free md ops listed k && lexN md ops f (k + 1) (listed.setIfInBounds k true)
theorem segAny_lex {n : Nat} {Lq : Act → Prop} (fin : Array Bool) (hsel : Region.noSelect ops = true) (hb : bndB md ops n = true) (hfin : ∀ j ∈ Region.ready md ops fin, n ≤ j) :
    ∀ (l : List Oper) (k : Nat) (listed : Array Bool) (a : Act), (∀ j, j < l.length → l[j]? = ops[k + j]?) → k + l.length = n → HeadInv md ops n listed → lexN md ops l.length k listed = true → setN l.length k listed = fin → wpQuiet P ops C Lq l a →
    headAny P md ops C n (fun listed' a' => listed' = fin ∧ Lq a') l.length listed a
  | [], k, listed, a, _, hk, _, _, hf, h => ⟨hf, h⟩
  | o :: l, k, listed, a, hl, hk, inv, hB, hf, h => by
    have h0 : ops[k]? = some o := by simpa using (hl 0 (by simp)).symm
    simp only [List.length_cons, lexN, Bool.and_eq_true] at hB hk
    obtain ⟨⟨hr, hfr⟩, hB'⟩ := hB
    have hr' : k ∈ Region.ready md ops listed := by simpa using hr
    obtain ⟨v, hy, hK⟩ := yieldsIn_of_qOp h0 (K := wpQuiet P ops C Lq l) (a := a) (by unfold qOp; simp only [h0]; exact h)
    exact segAny_first h0 (Region.noSelect_spec hsel) hb (by omega) (fun listed' a' hL => by rw [hL.1]; exact hfin) l.length listed a inv (Region.free_spec h0 hfr) hr' hy
      (segAny_lex fin hsel hb hfin l (k + 1) _ _ (fun j hj => by have := hl (j + 1) (by simp; omega); simpa [Nat.add_assoc, Nat.add_comm 1 j] using this) (by omega) (inv.set hr' (by omega)) hB' hf hK)

/-- what is asked behind a segment -/
def headQ (cont : Act → World → Prop) (Q : Exit → Act → World → Prop) : Exit → Act → World → Prop
  | .normal, a, w => cont a w
  | e, a, w => Q e a w
theorem wp_headQ {o : Oper} {a : Act} {w : World} {K cont : Act → World → Prop} {Q : Exit → Act → World → Prop} (h : o.wp P a w K (headQ cont Q)) : o.wp P a w K Q := by
  unfold Oper.wp at *
  generalize (execOp a.eval o).run P w = r at *
  cases r with
  | ok n w' =>
    cases n <;> simp only [Oper.upon] at h ⊢ <;> first | exact h | skip
    all_goals first
      | (exact Calls.mono h (fun e w'' he => by cases e <;> exact he))
      | exact h
  | halt x w' =>
    cases x <;> simp only [Oper.upon] at h ⊢ <;> exact h
def seqN (md : Region.Mode) (ops : Array Oper) : Nat → Nat → Array Bool → Bool
  | 0, _, _ => true
  | g + 1, k, listed => decide (Region.ready md ops listed = [k]) && seqN md ops g (k + 1) (listed.setIfInBounds k true)
theorem wpAny_of_seqN {Q : Exit → Act → World → Prop} {cont : Act → World → Prop} {g : Nat} (fin : Array Bool) (hc : ∀ a w, cont a w → wpAny P md ops Q g fin a w) : ∀ (l : List Oper) (k : Nat) (listed : Array Bool) (a : Act) (w : World), (∀ j, j < l.length → l[j]? = ops[k + j]?) →
    seqN md ops l.length k listed = true → setN l.length k listed = fin → wpList P ops (headQ cont Q) l a w → wpAny P md ops Q (l.length + g) listed a w
  | [], k, listed, a, w, _, _, hf, h => by
    obtain rfl : listed = fin := hf
    rw [List.length_nil, Nat.zero_add]; exact hc a w h
  | o :: l, k, listed, a, w, hl, hB, hf, h => by
    have h0 : ops[k]? = some o := by simpa using (hl 0 (by simp)).symm
    simp only [List.length_cons, seqN, Bool.and_eq_true, decide_eq_true_eq] at hB
    rw [List.length_cons, show l.length + 1 + g = (l.length + g) + 1 by omega]
    refine ⟨fun h1 => (by rw [hB.1] at h1; cases h1), fun i hi => ?_⟩
    rw [hB.1] at hi
    have hik : i = k := by simpa using hi
    subst hik
    have hw : wpOp P ops Q i (wpList P ops (headQ cont Q) l) a w := by
      unfold wpOp; simp only [h0]
      unfold wpList at h
      split
      · rename_i hwt
        rw [if_pos hwt] at h
        rcases h with h | ⟨h1, a', w', h2⟩
        · exact .inl (wp_headQ h)
        · exact .inr ⟨h1, a', w', h2⟩
      · rename_i hwt
        rw [if_neg hwt] at h
        exact h
    exact wpOp_mono (fun a' w' h' => wpAny_of_seqN fin hc l (i + 1) _ a' w' (fun j hj => by have := hl (j + 1) (by simp; omega); simpa [Nat.add_assoc, Nat.add_comm 1 j] using this) hB.2 hf h') hw

def segB (md : Region.Mode) (ops : Array Oper) : List (Bool × Nat) → Nat → Array Bool → Bool
  | [], k, listed => decide (k = ops.size) && (Region.ready md ops listed).isEmpty
  | (false, n) :: r, k, listed => seqN md ops n k listed && segB md ops r (k + n) (setN n k listed)
  | (true, n) :: r, k, listed => bndB md ops (k + n) && decide (k + n ≤ ops.size) && lexN md ops n k listed && (Region.ready md ops (setN n k listed)).all (fun j => decide (k + n ≤ j)) && segB md ops r (k + n) (setN n k listed)
/-- what is to be shown of the segments -/
def segP (P : Program) (ops : Array Oper) (Q : Exit → Act → World → Prop) : List (Bool × Nat) → List Oper → Act → World → Prop
  | [], _, a, w => Q .normal a w
  | (false, n) :: r, l, a, w => wpList P ops (headQ (fun a w => segP P ops Q r (l.drop n) a w) Q) (l.take n) a w
  | (true, n) :: r, l, a, w => ∃ C : World → Prop, C w ∧ wpQuiet P ops C (fun a' => ∀ w', C w' → segP P ops Q r (l.drop n) a' w') (l.take n) a
/-- exactly the first k are done -/
structure Firsts (md : Region.Mode) (ops : Array Oper) (k : Nat) (listed : Array Bool) : Prop where
  size : listed.size = ops.size
  closed : ∀ j oj, ops[j]? = some oj → listed.getD j false = true → ∀ e ∈ oj.after, Region.binds md e = true → listed.getD e.on false = true
  tail : ∀ t, k ≤ t → t < ops.size → listed.getD t true = false
theorem Firsts.set {k : Nat} {listed : Array Bool} (h : Firsts md ops k listed) (hr : k ∈ Region.ready md ops listed) : Firsts md ops (k + 1) (listed.setIfInBounds k true) := by
  have inv : HeadInv md ops (k + 1) listed := ⟨h.size, h.closed, fun t ht => h.tail t (by omega)⟩
  have := inv.set hr (by omega)
  exact ⟨this.size, this.closed, this.tail⟩
theorem Firsts.seqN : ∀ (n k : Nat) (listed : Array Bool), Firsts md ops k listed → seqN md ops n k listed = true → Firsts md ops (k + n) (setN n k listed)
  | 0, k, listed, h, _ => h
  | n + 1, k, listed, h, hB => by
    simp only [Go.Proofs.YtginbellakkliaaDoor.seqN, Bool.and_eq_true, decide_eq_true_eq] at hB
    have := Firsts.seqN n (k + 1) _ (h.set (by rw [hB.1]; simp)) hB.2
    rwa [show k + 1 + n = k + (n + 1) by omega] at this
theorem Firsts.lexN : ∀ (n k : Nat) (listed : Array Bool), Firsts md ops k listed → lexN md ops n k listed = true → Firsts md ops (k + n) (setN n k listed)
  | 0, k, listed, h, _ => h
  | n + 1, k, listed, h, hB => by
    simp only [Go.Proofs.YtginbellakkliaaDoor.lexN, Bool.and_eq_true] at hB
    have := Firsts.lexN n (k + 1) _ (h.set (by simpa using hB.1.1)) hB.2
    rwa [show k + 1 + n = k + (n + 1) by omega] at this
theorem wpAny_of_seg {Q : Exit → Act → World → Prop} (hsel : Region.noSelect ops = true) : ∀ (segs : List (Bool × Nat)) (l : List Oper) (k : Nat) (listed : Array Bool) (a : Act) (w : World), (∀ j, l[j]? = ops[k + j]?) → k + l.length = ops.size → Firsts md ops k listed →
    segB md ops segs k listed = true → segP P ops Q segs l a w → wpAny P md ops Q l.length listed a w
  | [], l, k, listed, a, w, hl, hk, hF, hB, h => by
    simp only [segB, Bool.and_eq_true, decide_eq_true_eq, List.isEmpty_iff] at hB
    have : l.length = 0 := by omega
    rw [this]
    exact ⟨hB.2, h⟩
  | (false, n) :: r, l, k, listed, a, w, hl, hk, hF, hB, h => by
    simp only [segB, Bool.and_eq_true] at hB
    have hn : n ≤ l.length := by
      apply Classical.byContradiction
      intro hn
      -- the operation behind the last is not ready
      have key : ∀ (m k' : Nat) (lst : Array Bool), seqN md ops m k' lst = true → ops.size < k' + m → k' ≤ ops.size → False := by
        intro m
        induction m with
        | zero => intro k' lst _ h1 h2; omega
        | succ m ih =>
          intro k' lst h1 h2 h3
          simp only [Go.Proofs.YtginbellakkliaaDoor.seqN, Bool.and_eq_true, decide_eq_true_eq] at h1
          have hk' : k' ∈ Region.ready md ops lst := by rw [h1.1]; simp
          obtain ⟨_, o, ho, _⟩ := mem_ready.1 hk'
          have := (Array.getElem?_eq_some_iff.1 ho).1
          exact ih (k' + 1) _ h1.2 (by omega) (by omega)
      exact key n k listed hB.1 (by omega) (by omega)
    have htl : (l.take n).length = n := by rw [List.length_take]; omega
    have hdl : (l.drop n).length = l.length - n := List.length_drop ..
    have := wpAny_of_seqN (P := P) (Q := Q) (g := (l.drop n).length) (setN n k listed) (cont := fun a w => segP P ops Q r (l.drop n) a w)
      (fun a w h => wpAny_of_seg hsel r (l.drop n) (k + n) _ a w (fun j => by rw [List.getElem?_drop, hl]; congr 1; omega) (by omega) (hF.seqN n k listed hB.1) hB.2 h)
      (l.take n) k listed a w (fun j hj => by rw [List.getElem?_take, if_pos (by omega)]; exact hl j) (by rw [htl]; exact hB.1) (by rw [htl]) h
    rwa [htl, hdl, show n + (l.length - n) = l.length by omega] at this
  | (true, n) :: r, l, k, listed, a, w, hl, hk, hF, hB, h => by
    simp only [segB, Bool.and_eq_true, decide_eq_true_eq, List.all_eq_true] at hB
    obtain ⟨⟨⟨⟨hb, hn⟩, hlx⟩, hrd⟩, hB'⟩ := hB
    obtain ⟨C, hC, h⟩ := h
    have htl : (l.take n).length = n := by rw [List.length_take]; omega
    have hdl : (l.drop n).length = l.length - n := List.length_drop ..
    have inv : HeadInv md ops (k + n) listed := ⟨hF.size, hF.closed, fun t ht => hF.tail t (by omega)⟩
    have H := segAny_lex (P := P) (C := C) (setN n k listed) hsel hb hrd (l.take n) k listed a (fun j hj => by rw [List.getElem?_take, if_pos (by omega)]; exact hl j) (by omega) inv (by rw [htl]; exact hlx) (by rw [htl]) h
    have := any_of_headAny (Q := Q) (g := (l.drop n).length) (fun listed' a' w' hw' hL => by
      obtain ⟨rfl, hL⟩ := hL
      exact wpAny_of_seg hsel r (l.drop n) (k + n) _ a' w' (fun j => by rw [List.getElem?_drop, hl]; congr 1; omega) (by omega) (hF.lexN n k listed hlx) hB' (hL w' hw')) _ _ _ _ hC H
    rwa [htl, hdl, show n + (l.length - n) = l.length by omega] at this
theorem wp_region_seg {id : Nat} {Q : Exit → Act → World → Prop} {a : Act} {w : World} {l : List Oper} (segs : List (Bool × Nat)) (hm : P.follows .mixedOrders = true)
    (hB : (Region.noSelect l.toArray && segB .any l.toArray segs 0 (Array.replicate l.toArray.size false)) = true) (h : segP P l.toArray Q segs l a w.drew) : (Code.region id l.toArray true).wp P Q a w := by
  simp only [Bool.and_eq_true] at hB
  refine wp_region_any hm ?_
  have := wpAny_of_seg (P := P) (md := .any) (Q := Q) hB.1 segs l 0 _ a w.drew (fun j => by simp) (by simp) ⟨by simp, fun j oj _ hl => (by rw [getD_replicate_false] at hl; cases hl), fun t _ ht => getD_in (by simpa using ht) (getD_replicate_false _ _)⟩ hB.2 h
  simpa using this
/-- the class of what a quiet segment leaves -/
theorem reg_self (w : World) : ∃ p : Regrown, w = grow (redrawn w p.d) p.os := ⟨⟨w.drawn, #[]⟩, by rw [grow_empty]; rfl⟩
end
end Go.Proofs.YtginbellakkliaaDoor
