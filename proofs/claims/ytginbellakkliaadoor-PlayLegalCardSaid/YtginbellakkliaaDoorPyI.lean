/- The iterator over a set's cards, the greatest first (card.cards), over this seat's program. -/
import Derived.Test.YtginbellakkliaaDoorLen
import Derived.Test.YtginbellakkliaaDoorBagM
import Derived.Test.YtginbellakkliaaDoorIter
import Derived.Sort.LoopGhostIn
import Derived.Shelf.Abstract
import Derived.Shelf.RegionOpen
import Derived.OwnWalkIn
import Derived.TacticsInMore
import Derived.LoopNIn
import Derived.LoopIn
import Derived.Outline
namespace Go.Proofs.YtginbellakkliaaDoor
open Go.RowKit Go.Shelf Go.Sort
attribute [local go_sem] Oper.semAt_some

/-- the cards of a set, the greatest first -/
def downF : Nat → Nat → List Nat
  | 0, _ => []
  | f + 1, m => if m = 0 then [] else (bitLen m - 1) :: downF f (landn m (shl1 (bitLen m - 1)))
def downL (m : Nat) : List Nat := downF (bitLen m) m
theorem bitLen_pos {m : Nat} (h : m ≠ 0) : 0 < bitLen m := by unfold bitLen; rw [if_neg h]; omega
theorem bitLen_w64 {m : Nat} (h : W64 m) : bitLen m ≤ 64 := by
  unfold bitLen
  split
  · omega
  · rename_i h0
    have := (Nat.log2_lt h0).2 (show m < 2 ^ 64 from h)
    omega
theorem top_bit {m : Nat} (h : m ≠ 0) : m.testBit (bitLen m - 1) = true := by
  unfold bitLen; rw [if_neg h, Nat.add_sub_cancel]
  have h1 := Nat.log2_self_le h
  have h2 : m < 2 ^ (m.log2 + 1) := Nat.lt_log2_self
  rw [Nat.testBit_eq_decide_div_mod_eq]
  have h3 : m / 2 ^ m.log2 = 1 := by
    apply Nat.div_eq_of_lt_le
    · omega
    · rw [Nat.pow_succ] at h2; omega
  rw [h3]; rfl
theorem landn_top {m : Nat} (h : m ≠ 0) (hw : W64 m) : landn m (shl1 (bitLen m - 1)) = m % 2 ^ (bitLen m - 1) := by
  have h64 := bitLen_w64 hw
  have hp := bitLen_pos h
  have hs := (bitLen_spec m).1
  apply Nat.eq_of_testBit_eq
  intro i
  rw [testBit_landn, testBit_shl1, Nat.testBit_mod_two_pow]
  rcases Nat.lt_trichotomy i (bitLen m - 1) with h1 | h1 | h1
  · have e : ¬ bitLen m - 1 = i := by omega
    simp [e, h1]
  · subst h1
    have e : bitLen m - 1 < 64 := by omega
    simp [e]
  · have e : m.testBit i = false := Nat.testBit_lt_two_pow (Nat.lt_of_lt_of_le hs (Nat.pow_le_pow_right (by decide) (by omega)))
    simp [e]
theorem bitLen_le_of_lt {m k : Nat} (h : m < 2 ^ k) : bitLen m ≤ k := by
  unfold bitLen
  split
  · omega
  · rename_i h0
    have := (Nat.log2_lt h0).2 h
    omega
theorem bitLen_top {m : Nat} (h : m ≠ 0) (hw : W64 m) : bitLen (landn m (shl1 (bitLen m - 1))) ≤ bitLen m - 1 := by
  rw [landn_top h hw]
  exact bitLen_le_of_lt (Nat.mod_lt _ (Nat.two_pow_pos _))
theorem downF_step (f m : Nat) (h : m ≠ 0) : downF (f + 1) m = (bitLen m - 1) :: downF f (landn m (shl1 (bitLen m - 1))) := by simp [downF, h]
theorem downF_zero (f : Nat) : downF f 0 = [] := by cases f <;> simp [downF]
theorem downF_same : ∀ (f g : Nat) (m : Nat), W64 m → bitLen m ≤ f → bitLen m ≤ g → downF f m = downF g m
  | 0, g, m, hw, hf, _ => by
    have h0 : m = 0 := by
      by_cases h : m = 0
      · exact h
      · have := bitLen_pos h; omega
    subst h0; rw [downF_zero, downF_zero]
  | f + 1, 0, m, hw, _, hg => by
    have h0 : m = 0 := by
      by_cases h : m = 0
      · exact h
      · have := bitLen_pos h; omega
    subst h0; rw [downF_zero, downF_zero]
  | f + 1, g + 1, m, hw, hf, hg => by
    by_cases h : m = 0
    · subst h; rw [downF_zero, downF_zero]
    · rw [downF_step f m h, downF_step g m h]
      have ht := bitLen_top h hw
      rw [downF_same f g _ hw.landn (by omega) (by omega)]
theorem downL_zero : downL 0 = [] := by simp [downL, bitLen, downF]
theorem downL_cons {m : Nat} (h : m ≠ 0) (hw : W64 m) : downL m = (bitLen m - 1) :: downL (landn m (shl1 (bitLen m - 1))) := by
  unfold downL
  obtain ⟨k, hk⟩ : ∃ k, bitLen m = k + 1 := ⟨bitLen m - 1, by have := bitLen_pos h; omega⟩
  have ht := bitLen_top h hw
  rw [hk]
  simp only [downF, if_neg h]
  rw [hk, downF_same k (bitLen (landn m (shl1 (k + 1 - 1)))) _ hw.landn (by rw [hk] at ht; exact ht) (Nat.le_refl _)]
theorem downL_lt {m : Nat} : ∀ (f : Nat), W64 m → bitLen m ≤ f → ∀ c ∈ downL m, c < 64 := by
  intro f
  induction f generalizing m with
  | zero =>
    intro hw hf c hc
    have h0 : m = 0 := by
      by_cases h : m = 0
      · exact h
      · have := bitLen_pos h; omega
    subst h0; rw [downL_zero] at hc; cases hc
  | succ f ih =>
    intro hw hf c hc
    by_cases h : m = 0
    · subst h; rw [downL_zero] at hc; cases hc
    · rw [downL_cons h hw] at hc
      rcases List.mem_cons.1 hc with rfl | hc
      · have := bitLen_w64 hw; have := bitLen_pos h; omega
      · exact ih hw.landn (by have := bitLen_top h hw; omega) c hc
set_option maxHeartbeats 1000000 in
set_option maxRecDepth 100000 in
theorem cardsD_in (n l R m : Nat) (S : Nat → Prop) (J : (Nat → Prop) → List Nat → World → Prop) (W : World) (hm : W64 m)
    (hR : Row W R 24 #[.int .u64 (m : Int)])
    (hY : ∀ G pre x W1, J G pre W1 → (∀ b, G b → b < W1.heap.size ∧ W.heap.size ≤ b) → (pre ++ [x]) <+: downL m → YieldAt Fence.wide (n - 1) Tryd.prog l #[.int .u8 ((x : Nat) : Int)] W1 fun e W' =>
      e = .returned (.bool true) ∧ J G (pre ++ [x]) W' ∧ (∀ b, G b → W'.heap[b]? = W1.heap[b]?) ∧ Kept S W1 W')
    (hJ0 : J noG [] W) :
    CallsIn Fence.wide n Tryd.prog 90 #[.func (.yield l) #[] #[], .pointer (some ⟨R, 0, none⟩)] W fun e W' => (∃ v, e = .returned v) ∧ ∃ G, J G (downL m) W' := by
  refine callsIn_of_wp Tryd.func90 rfl trivial ?_ rfl
  simp only [Tryd.ntmps90, List.size_toArray, List.length_cons, List.length_nil, Nat.reduceAdd, Nat.reduceSub, Array.replicate_succ, Array.replicate_zero, List.push_toArray, List.append_toArray, List.nil_append, List.cons_append]
  have HY := Lib.hid hY
  clear hY
  have c0 := hR.cell 0
  simp at c0
  gi_wp2
  gi_loopg [3] 64 (fun g s wr => ∃ (pre : List Nat) (rest : Nat), W64 rest ∧ g ≤ 64 ∧ bitLen rest ≤ g ∧ downL m = pre ++ downL rest ∧ s = .int .u64 (rest : Int) ∧ J noG pre wr)
  case atStart => exact ⟨[], m, hm, Nat.le_refl _, bitLen_w64 hm, rfl, rfl, hJ0⟩
  case round =>
    rename_i gk _ _
    obtain ⟨pre, rest, hw, hg64, hgb, hd, rfl, hJr⟩ := hrel
    have HD := Lib.hid hd
    clear hd
    by_cases h0 : rest = 0
    · subst h0
      gi_wp2
      go_end0
      refine ⟨⟨_, rfl⟩, noG, ?_⟩
      rw [HD.out, downL_zero, List.append_nil]
      exact hJr
    · have hn0 : ((rest : Int) != 0) = true := by rw [bne_iff_ne]; omega
      have hcons := downL_cons h0 hw
      obtain ⟨c, hc⟩ : ∃ c, bitLen rest = c + 1 := ⟨bitLen rest - 1, by have := bitLen_pos h0; omega⟩
      have htop := bitLen_top h0 hw
      have h64 := bitLen_w64 hw
      rw [hc, Nat.add_sub_cancel] at hcons htop
      have HC := Lib.hid hcons
      have HB := Lib.hid hc
      have hc64 : c < 64 := by omega
      have hcI : ((c + 1 : Nat) : Int) - 1 = (c : Int) := by omega
      have hcv : (c : Int) % 256 = (c : Int) := by omega
      clear hcons
      obtain ⟨fn, tmps, assign, body, hy, hYR⟩ := HY.out noG pre c wr hJr (fun b hb => hb.elim) (by rw [HD.out, HC.out]; exact ⟨downL (landn rest (shl1 c)), by simp⟩)
      have HYR := Lib.hid hYR
      clear hYR
      have hsw := W64.shl1 c
      have hlw : W64 (landn rest (shl1 c)) := hw.landn
      have hlen := bits_len rest hw wr
      rw [hc] at hlen
      have HLEN := Lib.hid hlen
      clear hlen hc
      gi_wp2_with (gi_at_call 91; refine (callsIn_wide.2 HLEN.out).mono ?_; rintro e w' ⟨rfl, rfl⟩)
      refine HYR.out.mono ?_
      rintro e W3 ⟨rfl, hJ3, hG3, hB3⟩
      gi_wp2
      gi_roundg c
      case rel => exact ⟨pre ++ [c], landn rest (shl1 c), hlw, by omega, htop, by rw [HD.out, HC.out]; simp, rfl, hJ3⟩
      case measure => have := HB.out; omega
/-- the frame in a round: the card lies in slots p and q -/
def inCd (a : Act) (p q x : Nat) : Act := { tmps := (a.tmps.setIfInBounds p (.int .u8 (x : Int))).setIfInBounds q (.int .u8 (x : Int)), defers := [] }
theorem range_cardsD {n p q id ty : Nat} {ps : String} {body : Code} {g : Operand} {Q : Exit → Act → World → Prop} {t : Act} {w : World} (R m : Nat) (h1 : 1 ≤ n)
    (hg : t.eval g = .func (.func 90) #[] #[.pointer (some ⟨R, 0, none⟩)]) (hp : p < t.tmps.size) (hm : W64 m) (hR : Row w R 24 #[.int .u64 (m : Int)]) (S : Nat → Prop) (hS : ∀ b, S b → b < w.heap.size)
    (I : (Nat → Prop) → List Nat → World → Prop) (hI : StableG w.heap.size I) (h0 : I noG [] w)
    (hbody : ∀ (l : Nat) (G : Nat → Prop) (pre : List Nat) (x : Nat) (W : World), I G pre W → (∀ b, G b → b < W.heap.size ∧ w.heap.size ≤ b) → w.heap.size ≤ W.heap.size → (pre ++ [x]) <+: downL m →
      body.wpIn (Fence.wide.inRound l) (n - 1 - 1) Tryd.prog (gPost w.heap.size S G I (pre ++ [x]) W) (inCd t p q x) W)
    (hdone : ∀ (D : Nat) (G : Nat → Prop) (W : World), w.heap.size ≤ D → I G (downL m) W → W.heap[D]? = some (.deferred (some [])) → Q .normal { t with defers := { target := .collected D, args := #[] } :: t.defers } W) :
    (Code.rangeFunc g #[p] (Code.region id #[{ dst := some q, op := .assign (.tmp p), type := ty, pos := ps, after := #[], guard := none }] false) body).wpIn Fence.wide n Tryd.prog Q t w := by
  refine wpIn_rangeFunc_G rfl h1 hg trivial (enters_of Tryd.func90 (by kernel_rfl) rfl) (encs := fun (x : Nat) => #[.int .u8 (x : Int)]) (S := S) (L := downL m) ?_ (Below.refl _ _) hS (fun _ => rfl) I hI h0
    (fun x W a' => a' = inCd t p q x) ?_ ?_ hdone
  · intro l J W hb hJ hY hJ0
    exact cardsD_in (n - 1) l R m S J W hm (hR.below hR.lt hb) hY hJ0
  · intro l x W K hsz hK
    refine wpIn_region_lit ?_
    simp only [List.zip_toArray, List.zip_cons_cons, List.zip_nil_left]
    simp [wpListIn, Oper.wpIn, go_sem, Oper.about, Oper.uponIn, execOp, Act.eval, Act.put, Exit.then]
    rw [if_pos hp]
    exact hK _ _ (Below.refl _ W) (fun l o o' hl ho hc => rfl)
  · intro l G pre x a' W hi hAs hG hsz hpre
    subst hAs
    exact hbody l G pre x W hi hG hsz hpre
end Go.Proofs.YtginbellakkliaaDoor
