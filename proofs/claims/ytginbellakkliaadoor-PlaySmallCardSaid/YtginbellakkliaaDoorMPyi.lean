/- PyI, PyJ in one text. -/
import Derived.Test.YtginbellakkliaaDoorLen
import Derived.Test.YtginbellakkliaaDoorBagM
import Derived.Test.YtginbellakkliaaDoorIter
import Derived.Sort.LoopGhostIn
import Derived.Shelf.Abstract
import Derived.Shelf.RegionOpen
import Derived.OwnWalkIn
import Derived.TacticsInMore
import Derived.LoopNIn
import Derived.LoopIn
import Derived.Outline
import Derived.Test.YtginbellakkliaaDoorMPyg
import Derived.Test.YtginbellakkliaaDoorMOnes
import Derived.Maps.OwnIn

/- The iterator over a set's cards, the greatest first (card.cards), over this seat's program. -/
namespace Go.Proofs.YtginbellakkliaaDoor
open Go.RowKit Go.Shelf Go.Sort
attribute [local go_sem] Oper.semAt_some

/-- the cards of a set, the greatest first -/
def downF : Nat → Nat → List Nat
  | 0, _ => []
  | f + 1, m => if m = 0 then [] else (bitLen m - 1) :: downF f (landn m (shl1 (bitLen m - 1)))
def downL (m : Nat) : List Nat := downF (bitLen m) m
theorem bitLen_pos {m : Nat} (h : m ≠ 0) : 0 < bitLen m := by unfold bitLen; rw [if_neg h]; omega
theorem bitLen_w64 {m : Nat} (h : W64 m) : bitLen m ≤ 64 := by
  unfold bitLen
  split
  · omega
  · rename_i h0
    have := (Nat.log2_lt h0).2 (show m < 2 ^ 64 from h)
    omega
theorem top_bit {m : Nat} (h : m ≠ 0) : m.testBit (bitLen m - 1) = true := by
  unfold bitLen; rw [if_neg h, Nat.add_sub_cancel]
  have h1 := Nat.log2_self_le h
  have h2 : m < 2 ^ (m.log2 + 1) := Nat.lt_log2_self
  rw [Nat.testBit_eq_decide_div_mod_eq]
  have h3 : m / 2 ^ m.log2 = 1 := by
    apply Nat.div_eq_of_lt_le
    · omega
    · rw [Nat.pow_succ] at h2; omega
  rw [h3]; rfl
theorem landn_top {m : Nat} (h : m ≠ 0) (hw : W64 m) : landn m (shl1 (bitLen m - 1)) = m % 2 ^ (bitLen m - 1) := by
  have h64 := bitLen_w64 hw
  have hp := bitLen_pos h
  have hs := (bitLen_spec m).1
  apply Nat.eq_of_testBit_eq
  intro i
  rw [testBit_landn, testBit_shl1, Nat.testBit_mod_two_pow]
  rcases Nat.lt_trichotomy i (bitLen m - 1) with h1 | h1 | h1
  · have e : ¬ bitLen m - 1 = i := by omega
    simp [e, h1]
  · subst h1
    have e : bitLen m - 1 < 64 := by omega
    simp [e]
  · have e : m.testBit i = false := Nat.testBit_lt_two_pow (Nat.lt_of_lt_of_le hs (Nat.pow_le_pow_right (by decide) (by omega)))
    simp [e]
theorem bitLen_le_of_lt {m k : Nat} (h : m < 2 ^ k) : bitLen m ≤ k := by
  unfold bitLen
  split
  · omega
  · rename_i h0
    have := (Nat.log2_lt h0).2 h
    omega
theorem bitLen_top {m : Nat} (h : m ≠ 0) (hw : W64 m) : bitLen (landn m (shl1 (bitLen m - 1))) ≤ bitLen m - 1 := by
  rw [landn_top h hw]
  exact bitLen_le_of_lt (Nat.mod_lt _ (Nat.two_pow_pos _))
theorem downF_step (f m : Nat) (h : m ≠ 0) : downF (f + 1) m = (bitLen m - 1) :: downF f (landn m (shl1 (bitLen m - 1))) := by simp [downF, h]
theorem downF_zero (f : Nat) : downF f 0 = [] := by cases f <;> simp [downF]
theorem downF_same : ∀ (f g : Nat) (m : Nat), W64 m → bitLen m ≤ f → bitLen m ≤ g → downF f m = downF g m
  | 0, g, m, hw, hf, _ => by
    have h0 : m = 0 := by
      by_cases h : m = 0
      · exact h
      · have := bitLen_pos h; omega
    subst h0; rw [downF_zero, downF_zero]
  | f + 1, 0, m, hw, _, hg => by
    have h0 : m = 0 := by
      by_cases h : m = 0
      · exact h
      · have := bitLen_pos h; omega
    subst h0; rw [downF_zero, downF_zero]
  | f + 1, g + 1, m, hw, hf, hg => by
    by_cases h : m = 0
    · subst h; rw [downF_zero, downF_zero]
    · rw [downF_step f m h, downF_step g m h]
      have ht := bitLen_top h hw
      rw [downF_same f g _ hw.landn (by omega) (by omega)]
theorem downL_zero : downL 0 = [] := by simp [downL, bitLen, downF]
theorem downL_cons {m : Nat} (h : m ≠ 0) (hw : W64 m) : downL m = (bitLen m - 1) :: downL (landn m (shl1 (bitLen m - 1))) := by
  unfold downL
  obtain ⟨k, hk⟩ : ∃ k, bitLen m = k + 1 := ⟨bitLen m - 1, by have := bitLen_pos h; omega⟩
  have ht := bitLen_top h hw
  rw [hk]
  simp only [downF, if_neg h]
  rw [hk, downF_same k (bitLen (landn m (shl1 (k + 1 - 1)))) _ hw.landn (by rw [hk] at ht; exact ht) (Nat.le_refl _)]
theorem downL_lt {m : Nat} : ∀ (f : Nat), W64 m → bitLen m ≤ f → ∀ c ∈ downL m, c < 64 := by
  intro f
  induction f generalizing m with
  | zero =>
    intro hw hf c hc
    have h0 : m = 0 := by
      by_cases h : m = 0
      · exact h
      · have := bitLen_pos h; omega
    subst h0; rw [downL_zero] at hc; cases hc
  | succ f ih =>
    intro hw hf c hc
    by_cases h : m = 0
    · subst h; rw [downL_zero] at hc; cases hc
    · rw [downL_cons h hw] at hc
      rcases List.mem_cons.1 hc with rfl | hc
      · have := bitLen_w64 hw; have := bitLen_pos h; omega
      · exact ih hw.landn (by have := bitLen_top h hw; omega) c hc
set_option maxHeartbeats 1000000 in
set_option maxRecDepth 100000 in
theorem cardsD_in (n l R m : Nat) (S : Nat → Prop) (J : (Nat → Prop) → List Nat → World → Prop) (W : World) (hm : W64 m)
    (hR : Row W R 24 #[.int .u64 (m : Int)])
    (hY : ∀ G pre x W1, J G pre W1 → (∀ b, G b → b < W1.heap.size ∧ W.heap.size ≤ b) → (pre ++ [x]) <+: downL m → YieldAt Fence.wide (n - 1) Tryd.prog l #[.int .u8 ((x : Nat) : Int)] W1 fun e W' =>
      e = .returned (.bool true) ∧ J G (pre ++ [x]) W' ∧ (∀ b, G b → W'.heap[b]? = W1.heap[b]?) ∧ Kept S W1 W')
    (hJ0 : J noG [] W) :
    CallsIn Fence.wide n Tryd.prog 90 #[.func (.yield l) #[] #[], .pointer (some ⟨R, 0, none⟩)] W fun e W' => (∃ v, e = .returned v) ∧ ∃ G, J G (downL m) W' := by
  refine callsIn_of_wp Tryd.func90 rfl trivial ?_ rfl
  simp only [Tryd.ntmps90, List.size_toArray, List.length_cons, List.length_nil, Nat.reduceAdd, Nat.reduceSub, Array.replicate_succ, Array.replicate_zero, List.push_toArray, List.append_toArray, List.nil_append, List.cons_append]
  have HY := Lib.hid hY
  clear hY
  have c0 := hR.cell 0
  simp at c0
  gi_wp2
  gi_loopg [3] 64 (fun g s wr => ∃ (pre : List Nat) (rest : Nat), W64 rest ∧ g ≤ 64 ∧ bitLen rest ≤ g ∧ downL m = pre ++ downL rest ∧ s = .int .u64 (rest : Int) ∧ J noG pre wr)
  case atStart => exact ⟨[], m, hm, Nat.le_refl _, bitLen_w64 hm, rfl, rfl, hJ0⟩
  case round =>
    rename_i gk _ _
    obtain ⟨pre, rest, hw, hg64, hgb, hd, rfl, hJr⟩ := hrel
    have HD := Lib.hid hd
    clear hd
    by_cases h0 : rest = 0
    · subst h0
      gi_wp2
      go_end0
      refine ⟨⟨_, rfl⟩, noG, ?_⟩
      rw [HD.out, downL_zero, List.append_nil]
      exact hJr
    · have hn0 : ((rest : Int) != 0) = true := by rw [bne_iff_ne]; omega
      have hcons := downL_cons h0 hw
      obtain ⟨c, hc⟩ : ∃ c, bitLen rest = c + 1 := ⟨bitLen rest - 1, by have := bitLen_pos h0; omega⟩
      have htop := bitLen_top h0 hw
      have h64 := bitLen_w64 hw
      rw [hc, Nat.add_sub_cancel] at hcons htop
      have HC := Lib.hid hcons
      have HB := Lib.hid hc
      have hc64 : c < 64 := by omega
      have hcI : ((c + 1 : Nat) : Int) - 1 = (c : Int) := by omega
      have hcv : (c : Int) % 256 = (c : Int) := by omega
      clear hcons
      obtain ⟨fn, tmps, assign, body, hy, hYR⟩ := HY.out noG pre c wr hJr (fun b hb => hb.elim) (by rw [HD.out, HC.out]; exact ⟨downL (landn rest (shl1 c)), by simp⟩)
      have HYR := Lib.hid hYR
      clear hYR
      have hsw := W64.shl1 c
      have hlw : W64 (landn rest (shl1 c)) := hw.landn
      have hlen := bits_len rest hw wr
      rw [hc] at hlen
      have HLEN := Lib.hid hlen
      clear hlen hc
      gi_wp2_with (gi_at_call 91; refine (callsIn_wide.2 HLEN.out).mono ?_; rintro e w' ⟨rfl, rfl⟩)
      refine HYR.out.mono ?_
      rintro e W3 ⟨rfl, hJ3, hG3, hB3⟩
      gi_wp2
      gi_roundg c
      case rel => exact ⟨pre ++ [c], landn rest (shl1 c), hlw, by omega, htop, by rw [HD.out, HC.out]; simp, rfl, hJ3⟩
      case measure => have := HB.out; omega
/-- the frame in a round: the card lies in slots p and q -/
def inCd (a : Act) (p q x : Nat) : Act := { tmps := (a.tmps.setIfInBounds p (.int .u8 (x : Int))).setIfInBounds q (.int .u8 (x : Int)), defers := [] }
theorem range_cardsD {n p q id ty : Nat} {ps : String} {body : Code} {g : Operand} {Q : Exit → Act → World → Prop} {t : Act} {w : World} (R m : Nat) (h1 : 1 ≤ n)
    (hg : t.eval g = .func (.func 90) #[] #[.pointer (some ⟨R, 0, none⟩)]) (hp : p < t.tmps.size) (hm : W64 m) (hR : Row w R 24 #[.int .u64 (m : Int)]) (S : Nat → Prop) (hS : ∀ b, S b → b < w.heap.size)
    (I : (Nat → Prop) → List Nat → World → Prop) (hI : StableG w.heap.size I) (h0 : I noG [] w)
    (hbody : ∀ (l : Nat) (G : Nat → Prop) (pre : List Nat) (x : Nat) (W : World), I G pre W → (∀ b, G b → b < W.heap.size ∧ w.heap.size ≤ b) → w.heap.size ≤ W.heap.size → (pre ++ [x]) <+: downL m →
      body.wpIn (Fence.wide.inRound l) (n - 1 - 1) Tryd.prog (gPost w.heap.size S G I (pre ++ [x]) W) (inCd t p q x) W)
    (hdone : ∀ (D : Nat) (G : Nat → Prop) (W : World), w.heap.size ≤ D → I G (downL m) W → W.heap[D]? = some (.deferred (some [])) → Q .normal { t with defers := { target := .collected D, args := #[] } :: t.defers } W) :
    (Code.rangeFunc g #[p] (Code.region id #[{ dst := some q, op := .assign (.tmp p), type := ty, pos := ps, after := #[], guard := none }] false) body).wpIn Fence.wide n Tryd.prog Q t w := by
  refine wpIn_rangeFunc_G rfl h1 hg trivial (enters_of Tryd.func90 (by kernel_rfl) rfl) (encs := fun (x : Nat) => #[.int .u8 (x : Int)]) (S := S) (L := downL m) ?_ (Below.refl _ _) hS (fun _ => rfl) I hI h0
    (fun x W a' => a' = inCd t p q x) ?_ ?_ hdone
  · intro l J W hb hJ hY hJ0
    exact cardsD_in (n - 1) l R m S J W hm (hR.below hR.lt hb) hY hJ0
  · intro l x W K hsz hK
    refine wpIn_region_lit ?_
    simp only [List.zip_toArray, List.zip_cons_cons, List.zip_nil_left]
    simp [wpListIn, Oper.wpIn, go_sem, Oper.about, Oper.uponIn, execOp, Act.eval, Act.put, Exit.then]
    rw [if_pos hp]
    exact hK _ _ (Below.refl _ W) (fun l o o' hl ho hc => rfl)
  · intro l G pre x a' W hi hAs hG hsz hpre
    subst hAs
    exact hbody l G pre x W hi hG hsz hpre
end Go.Proofs.YtginbellakkliaaDoor

/- The contract of card.List over this seat's program. -/
namespace Go.Proofs.YtginbellakkliaaDoor
open Go.RowKit Go.Shelf Go.Sort
attribute [local go_sem] Oper.semAt_some

section
variable {α : Type} {enc : α → List Value} {m : Nat} {T Tv : TypeId} {Bl base : Nat}
theorem bag_appended2 {W w1 : World} {v v' : Value} {l : List α} {x : α} {tmp : Obj} {G S : Nat → Prop} {B n k : Nat} {ys : List Value}
    (hr : Row W Bl Tv #[v]) (ho : Owns enc m T W base v l) (hg : ∀ g, v.ownBlock = some g → ¬ G g) (hte : Tv ≠ T) (hBl : Bl < B) (hnb : n ≤ base) (hnB : n ≤ Bl) (hSo : ∀ b, S b → v.ownBlock ≠ some b)
    (hGl : ∀ b, G b → b < W.heap.size ∧ B ≤ b) (hSl : ¬ S Bl) (hlo : ys = enc x) (hk : k = 1)
    (hown' : w1.ownsRow base T m v' (l.length + k) (l.flatMap enc ++ ys)) (hgrow : (W.alloc tmp).grownBy w1 v.ownBlock) (hloc : v'.ownBlock = v.ownBlock ∨ v'.ownBlock = some (W.alloc tmp).heap.size) :
    w1.cell? ⟨Bl, 0, none⟩ = some v ∧ w1.frozen? ⟨Bl, 0, none⟩ = false ∧ Bl < w1.heap.size ∧ Bag enc m T Tv Bl base G (l ++ [x]) (w1.setCell ⟨Bl, 0, none⟩ v') ∧ KeepsFrom B W (w1.setCell ⟨Bl, 0, none⟩ v') ∧
      (∀ b, G b → (w1.setCell ⟨Bl, 0, none⟩ v').heap[b]? = W.heap[b]?) ∧ Kept S W (w1.setCell ⟨Bl, 0, none⟩ v') ∧ Below n W (w1.setCell ⟨Bl, 0, none⟩ v') := by
  subst hlo hk
  have hvl : ∀ g, v.ownBlock = some g → base ≤ g ∧ g < W.heap.size ∧ ∃ c, W.heap[g]? = some (.cells c T (0, 0)) := by
    intro g he
    rcases ho.2.2 with ⟨rfl, _⟩ | ⟨g', cap, cur, rfl, h1, h2, _⟩
    · simp [Value.ownBlock] at he
    · obtain rfl : g' = g := by simpa [Value.ownBlock] using he
      exact ⟨h1, (Array.getElem?_eq_some_iff.1 h2).1, _, h2⟩
  have hne : v.ownBlock ≠ some Bl := not_row hr hte ho.2
  have hne' : v'.ownBlock ≠ some Bl := by
    rcases hloc with h | h
    · rw [h]; exact hne
    · rw [h]; intro e; injection e with e; have := hr.lt; simp at e; omega
  have hsz : W.heap.size + 1 ≤ w1.heap.size := by have := hgrow.size; simpa using this
  have hr1 : Row w1 Bl Tv #[v] := (hr.alloc tmp).same (hgrow.block Bl (by have := hr.lt; simp; omega) (fun e => hne e.symm))
  have hset : ∀ b, b ≠ Bl → (w1.setCell ⟨Bl, 0, none⟩ v').heap[b]? = w1.heap[b]? := fun b hb => Below.heap_setCell _ _ _ _ hb
  have hold : ∀ b, b < W.heap.size → v.ownBlock ≠ some b → b ≠ Bl → (w1.setCell ⟨Bl, 0, none⟩ v').heap[b]? = W.heap[b]? := fun b h1 h2 h3 =>
    (hset b h3).trans ((hgrow.block b (by simp; omega) (fun e => h2 e.symm)).trans (Below.heap_alloc W tmp b h1))
  have hos := hgrow.os
  have htp := hgrow.tape
  have hout := hgrow.output
  refine ⟨hr1.cell 0, hr1.frozen 0, hr1.lt, ⟨v', ?_, ⟨ho.1, ?_⟩, ?_⟩, ⟨by simp [World.setCell]; omega, fun k o hk h1 h2 => ?_⟩, fun b h1 => ?_, ⟨hos, htp, hout, by simp [World.setCell]; omega, fun b h1 h2 => ?_⟩, ⟨hos, htp, hout, by simp [World.setCell]; omega, fun b h1 => ?_⟩⟩
  · have := hr1.set 0 v'
    simpa using this
  · have h1 : w1.ownsRow base T m v' (l ++ [x]).length ((l ++ [x]).flatMap enc) := by simpa using hown'
    refine h1.kept (row := some Bl) ⟨rfl, rfl, rfl, by simp [World.setCell], fun b _ hne => hset b (fun e => hne (by rw [e]))⟩ (.inr (fun e => hne' e))
  · intro g he hG
    rcases hloc with h | h
    · exact hg g (h ▸ he) hG
    · rw [h] at he; injection he with he; have := (hGl g hG).1; simp at he; omega
  · have hkl := (Array.getElem?_eq_some_iff.1 h1).1
    rw [hold k hkl (fun e => ?_) (by omega)]
    · exact h1
    · obtain ⟨_, _, c, h3⟩ := hvl k e
      rw [h3] at h1; injection h1 with h1; rw [← h1] at h2; cases h2
  · exact hold b (hGl b h1).1 (fun e => hg b e h1) (by have := (hGl b h1).2; omega)
  · exact hold b h2 (hSo b h1) (fun e => hSl (e ▸ h1))
  · have := hr.lt
    exact hold b (by omega) (fun e => by have h3 := (hvl b e).1; omega) (by omega)
end
theorem card_list_no (m : Nat) (h : 4503599627370496 ≤ m) (w : World) :
    Calls Tryd.prog 59 #[.int .u64 (m : Int)] w fun e w' => e = .returned (.tuple #[.slice none 0 0, .int .i64 41]) ∧ w = w' := by
  have hB : decide ((m : Int) > 4503599627370495) = true := by rw [decide_eq_true_eq]; omega
  go_enter Tryd.func59, Tryd.ntmps59
  go_wp2
  go_ret2
  exact ⟨rfl, rfl⟩
theorem downL_len {m : Nat} (hw : W64 m) : (downL m).length ≤ 64 := by
  have h : ∀ f m, (downF f m).length ≤ f := by
    intro f
    induction f with
    | zero => intro m; simp [downF]
    | succ f ih => intro m; unfold downF; split; simp; simp; exact ih _
  exact Nat.le_trans (h _ _) (bitLen_w64 hw)
theorem card_cards (m : Nat) (w : World) :
    Calls Tryd.prog 81 #[.int .u64 (m : Int)] w fun e w' => e = .returned (.func (.func 90) #[] #[.pointer (some ⟨w.heap.size, 0, none⟩)]) ∧ w' = w.alloc (.cells #[.int .u64 (m : Int)] 24) := by
  go_enter Tryd.func81, Tryd.ntmps81
  go_wp2
  go_ret
  exact ⟨rfl, rfl⟩
set_option maxHeartbeats 1000000 in
set_option maxRecDepth 100000 in
theorem card_list (m : Nat) (hm : W64 m) (h : m < 4503599627370496) (w : World) :
    Calls Tryd.prog 59 #[.int .u64 (m : Int)] w fun e w' => ∃ v, e = .returned (.tuple #[v, .int .i64 0]) ∧ OwnU w' w.heap.size v (downL m) ∧ Below w.heap.size w w' := by
  have hB : decide ((m : Int) > 4503599627370495) = false := by rw [decide_eq_false_iff_not]; omega
  obtain ⟨i0, hi, hz0, hz1, hz2⟩ := info_parts info_u8'
  have hpop : pop m ≤ 64 := cnt_le m 64
  obtain ⟨w1, hrun, hown1, hg1⟩ := run_make_own (P := Tryd.prog) w w.heap.size 22 5 i0 (.int .u8 0) 1 Tryd.underlying22 hi hz0 hz1 .i64 .i64 (pop m) (by rw [hz2]; omega) (by unfold maxLen; omega) (Nat.le_refl _)
  refine (callsIn_wide (n := 9)).1 (callsIn_of_wp_marks Tryd.func59 rfl trivial ?_)
  simp only [Tryd.ntmps59, List.size_toArray, List.length_cons, List.length_nil, Nat.reduceAdd, Nat.reduceSub, Array.replicate_succ, Array.replicate_zero, List.push_toArray, List.append_toArray, List.nil_append, List.cons_append]
  gi_wp2_with (first
    | (gi_at_call 27; refine (callsIn_wide.2 (bits_ones m hm w)).mono ?_; rintro e w' ⟨rfl, rfl⟩))
  have hb1 : Below w.heap.size w w1 := (Below.refl _ _).grown hg1 (Nat.le_refl _) (fun _ h => by cases h)
  refine (callsIn_wide.2 (card_cards m _)).mono ?_
  rintro e w' ⟨rfl, rfl⟩
  clear hrun
  gi_wp2_with fail
  have hbag : Bag encU 1 5 22 w1.heap.size w.heap.size noG ([] : List Nat) ((w1.alloc (.cells #[.slice (some ⟨w.heap.size, 0, none⟩) 0 (pop m)] 22)).alloc (.cells #[.int .u64 (m : Int)] 24)) :=
    ⟨(.slice (some ⟨w.heap.size, 0, none⟩) 0 (pop m)), (Row.new w1 22 #[.slice (some ⟨w.heap.size, 0, none⟩) 0 (pop m)]).alloc _, Owns.alloc (Owns.alloc ⟨encU_len, hown1⟩ _) _, fun g _ h => h⟩
  have hRm : Row ((w1.alloc (.cells #[.slice (some ⟨w.heap.size, 0, none⟩) 0 (pop m)] 22)).alloc (.cells #[.int .u64 (m : Int)] 24)) (w1.heap.size + 1) 24 #[.int .u64 (m : Int)] := by
    have := Row.new (w1.alloc (.cells #[.slice (some ⟨w.heap.size, 0, none⟩) 0 (pop m)] 22)) 24 #[.int .u64 (m : Int)]
    rw [World.size_alloc] at this; exact this
  have hbz : Below w.heap.size w ((w1.alloc (.cells #[.slice (some ⟨w.heap.size, 0, none⟩) 0 (pop m)] 22)).alloc (.cells #[.int .u64 (m : Int)] 24)) := (hb1.alloc hb1.size _).alloc (by have := hb1.size; simp; omega) _
  have hsz : ((w1.alloc (.cells #[.slice (some ⟨w.heap.size, 0, none⟩) 0 (pop m)] 22)).alloc (.cells #[.int .u64 (m : Int)] 24)).heap.size = w1.heap.size + 2 := by simp
  have hs1 := hb1.size
  generalize ((w1.alloc (.cells #[.slice (some ⟨w.heap.size, 0, none⟩) 0 (pop m)] 22)).alloc (.cells #[.int .u64 (m : Int)] 24)) = wz at *
  refine range_cardsD (w1.heap.size + 1) m (by decide) rfl (by simp) hm hRm (fun b => b = w1.heap.size + 1) (by intro b hb; omega)
    (fun G pre W => Bag encU 1 5 22 w1.heap.size w.heap.size G pre W ∧ Row W (w1.heap.size + 1) 24 #[.int .u64 (m : Int)] ∧ Below w.heap.size w W)
    (stable_and (stable_bag (fun pre => pre) (by omega)) (stable_and (stable_row (c := fun _ => #[.int .u64 (m : Int)]) (by omega)) (stable_below (by omega) (Nat.le_refl _)))) ⟨hbag, hRm, hbz⟩ ?body ?done
  case body =>
    rintro l G pre x W ⟨⟨v, hbx, how, hvg⟩, hRW, hB⟩ hG hszW hpre
    simp only [inCd, List.setIfInBounds_toArray, List.set]
    have c0 := hbx.cell 0
    have hTl := hbx.lt
    have hBs := hB.size
    simp at c0
    have hx64 : x < 64 := downL_lt 64 hm (bitLen_w64 hm) x (hpre.subset (by simp))
    have hpl : pre.length ≤ 64 := by
      have h1 := hpre.length_le
      have h2 := downL_len hm
      rw [List.length_append] at h1
      omega
    have hSo : ∀ b, b = w1.heap.size + 1 → v.ownBlock ≠ some b := by
      rintro b rfl
      exact not_row hRW (by decide) how.2
    gi_wp2_with (gi_at_builtin; refine wpListIn_append_own_at _ rfl _ _ 22 rfl w.heap.size 5 i0 (.int .u8 0) 1 1 Tryd.underlying22 hi hz0 hz1 hz2 rfl (by decide) _ _ _ rfl (how.2.alloc _) ⟨W.heap.size, 0, none⟩ 1 1 [.int .u8 (x : Int)] rfl rfl (cell_one_new _ _ _) (by simp [Value.oneCell']) (by unfold maxLen; omega) (by omega) (by simp; omega) ?_; intro v' w3 hown' hgrow _ hloc; obtain ⟨g', cap', rfl⟩ := ownsRow_succ hown'; obtain ⟨q1, q2, q3, q4, q5, q6, q7, q8⟩ := bag_appended2 (x := x) (B := wz.heap.size) (n := w.heap.size) (S := fun b => b = w1.heap.size + 1) hbx how hvg (by decide) (by omega) (Nat.le_refl _) (by omega) hSo hG (by omega) rfl rfl hown' hgrow hloc)
    exact ⟨q5, q6, q7, q4, hRW.kept (S := fun b => b = w1.heap.size + 1) rfl q7, hB.trans q8⟩
  case done =>
    rintro D G W hD ⟨⟨v, hbx, how, hvg⟩, hRW, hB⟩ hK
    have c0 := hbx.cell 0
    simp at c0
    gi_wp2
    refine ⟨by simp, .inl ⟨_, _, rfl, run_takeDeferred hK, ?_⟩⟩
    exact ⟨_, results_tmp2 rfl _ _ _, v, rfl, how.putObj _ hK rfl, hB.trans (belowK_b (w := w) (Nat.le_refl _) W D _ _ (by omega) hK rfl rfl)⟩
end Go.Proofs.YtginbellakkliaaDoor
