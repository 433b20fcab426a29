/- DmPa, DmPb, DmPc in one text. -/
import Derived.Test.YtnbillhodbcfbaaDoorMDmf
import Derived.Test.YtnbillhodbcfbaaDoorMOnes
import Derived.Test.YtnbillhodbcfbaaDoorMLow
import Derived.BigQuiet
import Derived.Test.YtnbillhodbcfbaaDoorMDmu

/- Plain: positions that are right. -/
namespace Go.Proofs.YtnbillhodbcfbaaDoor
open Go.RowKit Go.Sort Go.Shelf

/-- the first k hands in one -/
def orTo (h : Nat → Nat) : Nat → Nat
  | 0 => 0
  | k + 1 => lor (orTo h k) (h k)
def handsOk (h : Nat → Nat) : Nat → Bool
  | 0 => true
  | k + 1 => handsOk h k && (shr (h k) 52 == 0 && land (orTo h k) (h k) == 0)
/-- the hands and the first k cards played -/
def plTo (h : Nat → Nat) (ps : List Nat) : Nat → Nat
  | 0 => orTo h 4
  | k + 1 => lor (plTo h ps k) (shl1 (ps.getD k 0))
def playOk (h : Nat → Nat) (ps : List Nat) : Nat → Bool
  | 0 => true
  | k + 1 => playOk h ps k && (decide (ps.getD k 0 < 52) && !(plTo h ps k).testBit (ps.getD k 0))
def evenTo (h : Nat → Nat) (ld n q : Nat) : Nat → Bool
  | 0 => true
  | k + 1 => evenTo h ld n q k && decide (pop (h ((ld + k) % 4)) + (if k < n then 1 else 0) = q)
def evenB (h : Nat → Nat) (ld n : Nat) : Bool := decide (pop (h ((ld + n) % 4)) ≤ 6) && (!(decide (pop (h ((ld + n) % 4)) = 0) && decide (0 < n))) && evenTo h ld n (pop (h ((ld + n) % 4))) 4
def followTo (h : Nat → Nat) (ld : Nat) (ps : List Nat) : Nat → Bool
  | 0 => true
  | k + 1 => followTo h ld ps k && (decide (ps.getD k 0 / 13 = ps.getD 0 0 / 13) || land (h ((ld + k) % 4)) (suitM (ps.getD 0 0 / 13)) == 0)
def rightB (h : Nat → Nat) (tr ld : Nat) (ps : List Nat) : Bool :=
  decide (tr ≤ 4) && decide (ld ≤ 3) && decide (ps.length ≤ 3) && handsOk h 4 && playOk h ps ps.length && evenB h ld ps.length && followTo h ld ps ps.length
theorem orTo_bit (h : Nat → Nat) (c : Nat) : ∀ k, (orTo h k).testBit c = true ↔ ∃ s, s < k ∧ (h s).testBit c = true
  | 0 => by
    show (0 : Nat).testBit c = true ↔ _
    rw [Nat.zero_testBit]
    exact ⟨fun h => (by cases h), fun ⟨s, hs, _⟩ => by omega⟩
  | k + 1 => by
    show (lor (orTo h k) (h k)).testBit c = true ↔ _
    rw [testBit_lor, Bool.or_eq_true, orTo_bit h c k]
    constructor
    · rintro (⟨s, hs, hb⟩ | hb)
      · exact ⟨s, by omega, hb⟩
      · exact ⟨k, by omega, hb⟩
    · rintro ⟨s, hs, hb⟩
      by_cases e : s = k
      · subst e; exact .inr hb
      · exact .inl ⟨s, by omega, hb⟩
theorem shr52_bit {m : Nat} (hm : shr m 52 = 0) {c : Nat} (hc : m.testBit c = true) : c < 52 := by
  rcases Nat.lt_or_ge c 52 with h | h
  · exact h
  · have : (shr m 52).testBit (c - 52) = true := by
      unfold shr
      rw [Nat.testBit_shiftRight, show 52 + (c - 52) = c by omega]
      exact hc
    rw [hm, Nat.zero_testBit] at this
    cases this
theorem shr52_zero {m : Nat} (hm : ∀ c, m.testBit c = true → c < 52) : shr m 52 = 0 := by
  apply Nat.eq_of_testBit_eq
  intro c
  unfold shr
  rw [Nat.testBit_shiftRight, Nat.zero_testBit]
  cases hb : m.testBit (52 + c)
  · rfl
  · have := hm _ hb; omega
theorem handsOk_iff (h : Nat → Nat) : ∀ k, handsOk h k = true ↔ (∀ s, s < k → ∀ c, (h s).testBit c = true → c < 52) ∧ ∀ s s' c, s < k → s' < k → (h s).testBit c = true → (h s').testBit c = true → s = s'
  | 0 => ⟨fun _ => ⟨fun s hs => (by omega), fun s _ _ hs => by omega⟩, fun _ => rfl⟩
  | k + 1 => by
    show (handsOk h k && (shr (h k) 52 == 0 && land (orTo h k) (h k) == 0)) = true ↔ _
    rw [Bool.and_eq_true, Bool.and_eq_true, beq_iff_eq, beq_iff_eq, handsOk_iff h k]
    constructor
    · rintro ⟨⟨h1, h2⟩, h3, h4⟩
      have h5 : ∀ s c, s < k → (h s).testBit c = true → (h k).testBit c = true → False := fun s c hs hb hb2 => by
        have := congrArg (fun m => m.testBit c) h4
        simp only [testBit_land, hb2, Nat.zero_testBit, Bool.and_true] at this
        rw [(orTo_bit h c k).2 ⟨s, hs, hb⟩] at this
        cases this
      refine ⟨fun s hs c hb => ?_, fun s s' c hs hs' hb hb' => ?_⟩
      · by_cases e : s = k
        · subst e; exact shr52_bit h3 hb
        · exact h1 s (by omega) c hb
      · by_cases e : s = k
        · by_cases e' : s' = k
          · omega
          · subst e; exact (h5 s' c (by omega) hb' hb).elim
        · by_cases e' : s' = k
          · subst e'; exact (h5 s c (by omega) hb hb').elim
          · exact h2 s s' c (by omega) (by omega) hb hb'
    · rintro ⟨h1, h2⟩
      refine ⟨⟨fun s hs => h1 s (by omega), fun s s' c hs hs' => h2 s s' c (by omega) (by omega)⟩, shr52_zero (h1 k (by omega)), ?_⟩
      apply Nat.eq_of_testBit_eq
      intro c
      rw [testBit_land, Nat.zero_testBit]
      cases hb : (h k).testBit c
      · rw [Bool.and_false]
      · rw [Bool.and_true]
        cases ho : (orTo h k).testBit c
        · rfl
        · obtain ⟨s, hs, hb'⟩ := (orTo_bit h c k).1 ho
          have := h2 s k c (by omega) (by omega) hb' hb
          omega
theorem plTo_bit (h : Nat → Nat) (ps : List Nat) (c : Nat) : ∀ k, (plTo h ps k).testBit c = true ↔ (∃ s, s < 4 ∧ (h s).testBit c = true) ∨ ∃ i, i < k ∧ ps.getD i 0 = c ∧ c < 64
  | 0 => by
    show (orTo h 4).testBit c = true ↔ _
    rw [orTo_bit]
    exact ⟨fun h => .inl h, fun h => h.resolve_right fun ⟨i, hi, _⟩ => by omega⟩
  | k + 1 => by
    show (lor (plTo h ps k) (shl1 (ps.getD k 0))).testBit c = true ↔ _
    rw [testBit_lor, Bool.or_eq_true, plTo_bit h ps c k, testBit_shl1, Bool.and_eq_true, decide_eq_true_eq, decide_eq_true_eq]
    constructor
    · rintro ((h1 | ⟨i, hi, hc⟩) | ⟨h1, h2⟩)
      · exact .inl h1
      · exact .inr ⟨i, by omega, hc⟩
      · exact .inr ⟨k, by omega, h1, by omega⟩
    · rintro (h1 | ⟨i, hi, hc, h64⟩)
      · exact .inl (.inl h1)
      · by_cases e : i = k
        · subst e; exact .inr ⟨hc, by omega⟩
        · exact .inl (.inr ⟨i, by omega, hc, h64⟩)
theorem playOk_iff (h : Nat → Nat) (ps : List Nat) : ∀ k, playOk h ps k = true ↔ (∀ i, i < k → ps.getD i 0 < 52) ∧ (∀ i s, i < k → s < 4 → (h s).testBit (ps.getD i 0) = false) ∧ ∀ i j, i < j → j < k → ps.getD i 0 ≠ ps.getD j 0
  | 0 => ⟨fun _ => ⟨fun i hi => (by omega), fun i _ hi => (by omega), fun i j _ hj => by omega⟩, fun _ => rfl⟩
  | k + 1 => by
    show (playOk h ps k && (decide (ps.getD k 0 < 52) && !(plTo h ps k).testBit (ps.getD k 0))) = true ↔ _
    rw [Bool.and_eq_true, Bool.and_eq_true, decide_eq_true_eq, Bool.not_eq_true', playOk_iff h ps k]
    constructor
    · rintro ⟨⟨h1, h2, h3⟩, h4, h5⟩
      have h6 : ∀ P : Prop, ((plTo h ps k).testBit (ps.getD k 0) = true) → P := fun P e => by rw [h5] at e; cases e
      refine ⟨fun i hi => ?_, fun i s hi hs => ?_, fun i j hij hj e => ?_⟩
      · by_cases e : i = k
        · subst e; exact h4
        · exact h1 i (by omega)
      · by_cases e : i = k
        · subst e
          cases hb : (h s).testBit (ps.getD i 0)
          · rfl
          · exact h6 _ ((plTo_bit h ps _ i).2 (.inl ⟨s, hs, hb⟩))
        · exact h2 i s (by omega) hs
      · by_cases e2 : j = k
        · subst e2
          exact h6 _ ((plTo_bit h ps _ j).2 (.inr ⟨i, hij, e, by omega⟩))
        · exact h3 i j hij (by omega) e
    · rintro ⟨h1, h2, h3⟩
      refine ⟨⟨fun i hi => h1 i (by omega), fun i s hi hs => h2 i s (by omega) hs, fun i j hij hj => h3 i j hij (by omega)⟩, h1 k (by omega), ?_⟩
      cases hb : (plTo h ps k).testBit (ps.getD k 0)
      · rfl
      · rcases (plTo_bit h ps _ k).1 hb with ⟨s, hs, hb2⟩ | ⟨i, hi, hc, _⟩
        · rw [h2 k s (by omega) hs] at hb2; cases hb2
        · exact (h3 i k hi (by omega) hc).elim
theorem evenTo_iff (h : Nat → Nat) (ld n q : Nat) : ∀ k, evenTo h ld n q k = true ↔ ∀ i, i < k → pop (h ((ld + i) % 4)) + (if i < n then 1 else 0) = q
  | 0 => ⟨fun _ i hi => by omega, fun _ => rfl⟩
  | k + 1 => by
    show (evenTo h ld n q k && decide (pop (h ((ld + k) % 4)) + (if k < n then 1 else 0) = q)) = true ↔ _
    rw [Bool.and_eq_true, decide_eq_true_eq, evenTo_iff h ld n q k]
    constructor
    · rintro ⟨h1, h2⟩ i hi
      by_cases e : i = k
      · subst e; exact h2
      · exact h1 i (by omega)
    · exact fun h1 => ⟨fun i hi => h1 i (by omega), h1 k (by omega)⟩
/-- what is known of a right position of q cards in the hand whose turn it is -/
structure RightP (h : Nat → Nat) (tr ld : Nat) (ps : List Nat) (q : Nat) : Prop where
  tr : tr ≤ 4
  ok : TbOk ⟨h, ld, ps⟩
  uniq : Uniq ⟨h, ld, ps⟩
  evn : Evn q ⟨h, ld, ps⟩
  q6 : q ≤ 6
  some : 0 < ps.length → 0 < q
theorem right_of {h : Nat → Nat} {tr ld : Nat} {ps : List Nat} (hw : ∀ s, W64 (h s)) (hr : rightB h tr ld ps = true) : RightP h tr ld ps (pop (h ((ld + ps.length) % 4))) := by
  unfold rightB at hr
  simp only [Bool.and_eq_true, decide_eq_true_eq] at hr
  obtain ⟨⟨⟨⟨⟨⟨h1, h2⟩, h3⟩, h4⟩, h5⟩, h6⟩, h7⟩ := hr
  obtain ⟨a1, a2⟩ := (handsOk_iff h 4).1 h4
  obtain ⟨b1, b2, b3⟩ := (playOk_iff h ps _).1 h5
  unfold evenB at h6
  simp only [Bool.and_eq_true, decide_eq_true_eq, Bool.not_eq_true', Bool.and_eq_false_iff, decide_eq_false_iff_not] at h6
  obtain ⟨⟨c1, c2⟩, c3⟩ := h6
  have hg : ∀ {i x : Nat}, ps[i]? = some x → i < ps.length ∧ ps.getD i 0 = x := fun {i x} e => ⟨(List.getElem?_eq_some_iff.1 e).1, by rw [List.getD_eq_getElem?_getD, e]; rfl⟩
  refine ⟨h1, ⟨⟨a1, by show ps.length < 4; omega⟩, by show ld < 4; omega, fun x hx => ?_, hw⟩, ?_, (evenTo_iff h ld _ _ 4).1 c3, c1, fun h => ?_⟩
  · obtain ⟨i, hi⟩ := List.getElem?_of_mem hx
    obtain ⟨e1, e2⟩ := hg hi
    rw [← e2]; exact b1 i e1
  · rintro s s' c ⟨hs, hb | ⟨i, hi, e⟩⟩ ⟨hs', hb' | ⟨i', hi', e'⟩⟩
    · exact a2 s s' c hs hs' hb hb'
    · obtain ⟨e1, e2⟩ := hg hi'
      have := b2 i' s e1 hs
      rw [e2] at this
      have hb : (h s).testBit c = true := hb
      rw [this] at hb; cases hb
    · obtain ⟨e1, e2⟩ := hg hi
      have := b2 i s' e1 hs'
      rw [e2] at this
      have hb : (h s').testBit c = true := hb'
      rw [this] at hb; cases hb
    · obtain ⟨e1, e2⟩ := hg hi
      obtain ⟨e1', e2'⟩ := hg hi'
      rcases Nat.lt_trichotomy i i' with h | h | h
      · exact (b3 i i' h e1' (by rw [e2, e2'])).elim
      · subst h; omega
      · exact (b3 i' i h e1 (by rw [e2, e2'])).elim
  · rcases c2 with c2 | c2 <;> omega
end Go.Proofs.YtnbillhodbcfbaaDoor

/- Positions over this seat's program: turn, even. -/
namespace Go.Proofs.YtnbillhodbcfbaaDoor
open Go.RowKit Go.Sort Go.Shelf

/-- a position as its cells -/
def posA (h : Nat → Nat) (tr ld : Nat) (v : Value) : Array Value := #[.int .u64 (h 0 : Int), .int .u64 (h 1 : Int), .int .u64 (h 2 : Int), .int .u64 (h 3 : Int), .int .u8 (tr : Int), .int .u8 (ld : Int), v]
theorem posA_h (h : Nat → Nat) (tr ld : Nat) (v : Value) {s : Nat} (hs : s < 4) : (posA h tr ld v)[s]? = some (.int .u64 (h s : Int)) := by
  rcases (show s = 0 ∨ s = 1 ∨ s = 2 ∨ s = 3 by omega) with rfl | rfl | rfl | rfl <;> rfl
theorem size_pos : (Tryd.prog.info? 27).map (·.size) = some 7 := by kernel_rfl
theorem dm_turnP (h : Nat → Nat) (tr ld n : Nat) (a : Option Addr) (cap : Nat) (hl : ld ≤ 3) (hn : n ≤ 3) (w : World) : Calls Tryd.prog 54 #[.agg (posA h tr ld (.slice a n cap))] w fun e w' => e = .returned (.int .u8 (((ld + n) % 4 : Nat) : Int)) ∧ Below w.heap.size w w' := by
  have HT : Hid (((ld : Int) + (n : Int)) % 4 = (((ld + n) % 4 : Nat) : Int)) := Lib.hid (by omega)
  have HB := Lib.hid ((Below.refl w.heap.size w).alloc (Nat.le_refl _) (.cells (posA h tr ld (.slice a n cap)) 27))
  unfold posA at HB ⊢
  go_enter Tryd.func54, Tryd.ntmps54
  go_wp2_with fail
  go_ret
  exact ⟨congrArg (fun x => Ending.returned (Value.int .u8 x)) HT.out, HB.out⟩
set_option maxHeartbeats 2000000 in
set_option maxRecDepth 10000 in
theorem dm_even (h : Nat → Nat) (tr ld n : Nat) (a : Option Addr) (cap : Nat) (hw : ∀ s, W64 (h s)) (hl : ld ≤ 3) (hn : n ≤ 3) (w : World) : Calls Tryd.prog 63 #[.agg (posA h tr ld (.slice a n cap))] w fun e w' => e = .returned (.bool (evenB h ld n)) ∧ Below w.heap.size w w' := by
  have HW := Lib.hid hw
  obtain ⟨PA, hPA⟩ : ∃ A, posA h tr ld (.slice a n cap) = A := ⟨_, rfl⟩
  have HPA := Lib.hid hPA
  have HTU := Lib.hid (fun W => dm_turnP h tr ld n a cap hl hn W)
  have HRL := Lib.hid hl
  have HRN := Lib.hid hn
  rw [hPA] at HTU ⊢
  have HZ : Hid (PA.size = 7) := Lib.hid (by rw [← hPA]; rfl)
  have HB := Lib.hid ((Below.refl w.heap.size w).alloc (Nat.le_refl _) (.cells PA 27))
  have HR := Lib.hid (Row.new w 27 PA)
  obtain ⟨b0, hb0⟩ : ∃ b, w.heap.size = b := ⟨_, rfl⟩
  have HB0 := Lib.hid hb0
  rw [hb0] at HR
  clear hw hPA hl hn
  go_enter Tryd.func63, Tryd.ntmps63
  go_upto_region 1 with fail
  clear hb0
  generalize w.alloc (.cells PA 27) = W1 at *
  go_wp2_with (refine wpList_load_row rfl 27 (.tmp 1) rfl b0 rfl 27 PA (0, 0) _ HR.out Tryd.underlying27 rfl (by rw [HZ.out]; exact size_pos) ?_)
  refine (HTU.out _).mono ?_
  rintro e w2 ⟨rfl, hb2⟩
  have HB2 := Lib.hid (HB.out.trans (hb2.mono (by have := HR.out.lt; rw [HB0.out]; omega)))
  have HR2 := Lib.hid (HR.out.later hb2)
  clear hb2 HB HR HTU
  obtain ⟨q, hq⟩ : ∃ q, pop (h ((ld + n) % 4)) = q := ⟨_, rfl⟩
  have HQ := Lib.hid hq
  have HEV : Hid (evenB h ld n = (decide (q ≤ 6) && (!(decide (q = 0) && decide (0 < n))) && evenTo h ld n q 4)) := Lib.hid (by unfold evenB; rw [hq])
  have ht4 : (ld + n) % 4 < 4 := Nat.mod_lt _ (by decide)
  have hti : (((ld + n) % 4 : Nat) : Int) < 4 := by omega
  have cT : w2.cell? ⟨b0, (ld + n) % 4, none⟩ = some (.int .u64 (h ((ld + n) % 4) : Int)) := (HR2.out.cell _).trans (by rw [← HPA.out]; exact posA_h h tr ld _ ht4)
  have HON := Lib.hid (fun W => bits_ones (h ((ld + n) % 4)) (HW.out _) W)
  rw [hq] at HON
  have hq64 : q ≤ 64 := by rw [← hq, pop_len]; rw [List.length_map]; exact bitsList_length _
  clear hq
  obtain ⟨t, ht⟩ : ∃ t, (ld + n) % 4 = t := ⟨_, rfl⟩
  have HT := Lib.hid ht
  rw [ht] at cT ht4 hti HON HQ ⊢
  clear ht
  have c6 : w2.cell? ⟨b0, 6, none⟩ = some (.slice a n cap) := (HR2.out.cell 6).trans (by rw [← HPA.out]; rfl)
  have c5 : w2.cell? ⟨b0, 5, none⟩ = some (.int .u8 (ld : Int)) := (HR2.out.cell 5).trans (by rw [← HPA.out]; rfl)
  have hl := HRL.out
  have hn := HRN.out
  by_cases h6 : 6 < q
  · have h6i : (6 : Int) < (q : Int) := by omega
    have HF : Hid (evenB h ld n = false) := Lib.hid (by rw [HEV.out, decide_eq_false (by omega)]; rfl)
    clear h6
    go_wp2_with (refine (HON.out _).mono ?_; rintro e w3 ⟨rfl, rfl⟩)
    go_ret
    exact ⟨by rw [HF.out]; rfl, HB2.out⟩
  · have h6i : ¬ (6 : Int) < (q : Int) := by omega
    by_cases h0 : q = 0 ∧ 0 < n
    · obtain ⟨hq0, hn0⟩ := h0
      have hqb : ((q : Int) == 0) = true := by rw [beq_iff_eq]; omega
      have hnb : decide ((0 : Int) < (n : Int)) = true := by simp; omega
      have hni : (0 : Int) < (n : Int) := by omega
      have HF : Hid (evenB h ld n = false) := Lib.hid (by rw [HEV.out, decide_eq_true hq0, decide_eq_true hn0]; simp)
      clear h6 hq0 hn0
      go_wp2_with (refine (HON.out _).mono ?_; rintro e w3 ⟨rfl, rfl⟩)
      go_ret
      exact ⟨by rw [HF.out]; rfl, HB2.out⟩
    · have HE0 : Hid (evenB h ld n = evenTo h ld n q 4) := Lib.hid (by
        rw [HEV.out, decide_eq_true (show q ≤ 6 by omega), Bool.true_and]
        have : (decide (q = 0) && decide (0 < n)) = false := by
          rw [Bool.and_eq_false_iff, decide_eq_false_iff_not, decide_eq_false_iff_not]
          by_cases e : q = 0
          · exact .inr fun e2 => h0 ⟨e, e2⟩
          · exact .inl e
        rw [this]; rfl)
      have HGE := Lib.hid (show 0 < n → 0 < q by intro e; by_cases e2 : q = 0; exact absurd ⟨e2, e⟩ h0; omega)
      have hd6 : decide ((6 : Int) < (q : Int)) = false := by simp; omega
      clear h6 h0
      rcases Nat.eq_zero_or_pos q with hq0 | hq0
      case' neg.inl =>
        have hqb : ((q : Int) == 0) = true := by rw [beq_iff_eq]; omega
        have hnb : decide (0 < n) = false := by have := HGE.out; simp; omega
        clear hq0
        go_wp2_with (refine (HON.out _).mono ?_; rintro e w3 ⟨rfl, rfl⟩)
      case' neg.inr =>
        have hqb : ((q : Int) == 0) = false := by rw [beq_eq_false_iff_ne]; omega
        clear hq0
        go_wp2_with (refine (HON.out _).mono ?_; rintro e w3 ⟨rfl, rfl⟩)
      all_goals
        clear hqb h6i
        try clear hnb
        go_loop [4, 5, 24] (fun _ _ i => ∃ k : Nat, k ≤ 4 ∧ i = .int .i64 (k : Int) ∧ evenTo h ld n q k = true) (fun _ _ i => 4 - (intOf i).toNat)
        case atStart => exact ⟨0, by omega, rfl, rfl⟩
        case round =>
          obtain ⟨k, hk, rfl, hek⟩ := hrel
          have HEK := Lib.hid hek
          clear hek
          by_cases hlt : k < 4
          · have hdk : decide ((k : Int) < 4) = true := by simp; omega
            have hmod : ((ld : Int) + (k : Int)) % 4 = (((ld + k) % 4 : Nat) : Int) := by omega
            have hs4 : (ld + k) % 4 < 4 := Nat.mod_lt _ (by decide)
            have hsi : (((ld + k) % 4 : Nat) : Int) < 4 := by omega
            have cS : w2.cell? ⟨b0, (ld + k) % 4, none⟩ = some (.int .u64 (h ((ld + k) % 4) : Int)) := (HR2.out.cell _).trans (by rw [← HPA.out]; exact posA_h h tr ld _ hs4)
            have HOS := Lib.hid (fun W => bits_ones (h ((ld + k) % 4)) (HW.out _) W)
            have HST : Hid (evenTo h ld n q (k + 1) = decide (pop (h ((ld + k) % 4)) + (if k < n then 1 else 0) = q)) := Lib.hid (by
              show (evenTo h ld n q k && _) = _
              rw [HEK.out]; rfl)
            have HALL : Hid (evenTo h ld n q (k + 1) = false → evenB h ld n = false) := Lib.hid (fun e => by
              rw [HE0.out]
              cases he : evenTo h ld n q 4
              · rfl
              · have h1 := (evenTo_iff h ld n q 4).1 he
                rw [(evenTo_iff h ld n q (k + 1)).2 fun i hi => h1 i (by omega)] at e
                cases e)
            obtain ⟨p, hp⟩ : ∃ p, pop (h ((ld + k) % 4)) = p := ⟨_, rfl⟩
            have hp64 : p ≤ 64 := by rw [← hp, pop_len, List.length_map]; exact bitsList_length _
            rw [hp] at HOS HST
            clear hp
            obtain ⟨s, hs⟩ : ∃ s, (ld + k) % 4 = s := ⟨_, rfl⟩
            rw [hs] at hmod hs4 hsi cS HOS
            clear hs
            by_cases hkn : k < n
            · have hknI : decide ((k : Int) < (n : Int)) = true := by simp; omega
              have hknN : decide (k < n) = true := by simp; omega
              rw [if_pos hkn] at HST
              have hqp : 0 < q := HGE.out (by omega)
              by_cases hpq : p + 1 = q
              · have HO2 := HOS.out
                rw [show (p : Int) = (q : Int) - 1 by omega] at HO2
                have HO3 := Lib.hid HO2
                clear HO2
                have HT2 : Hid (evenTo h ld n q (k + 1) = true) := Lib.hid (by rw [HST.out]; exact decide_eq_true hpq)
                clear hpq hkn hp64 hknI
                try clear hqp
                go_wp2_with (refine (HO3.out _).mono ?_; rintro e w3 ⟨rfl, rfl⟩)
                go_round
                case rel => exact ⟨k + 1, by omega, by simp, HT2.out⟩
                case measure => simp [intOf]; omega
              · have hne : ((p : Int) != (q : Int) - 1) = true := by rw [bne_iff_ne]; omega
                have HT2 : Hid (evenB h ld n = false) := Lib.hid (HALL.out (by rw [HST.out]; exact decide_eq_false hpq))
                clear hpq hkn hp64 hknI
                try clear hqp
                go_wp2_with (refine (HOS.out _).mono ?_; rintro e w3 ⟨rfl, rfl⟩)
                go_ret
                exact ⟨by rw [HT2.out]; rfl, HB2.out⟩
            · have hknI : decide ((k : Int) < (n : Int)) = false := by simp; omega
              have hknN : decide (k < n) = false := by simp; omega
              rw [if_neg hkn] at HST
              by_cases hpq : p + 0 = q
              · have HO2 := HOS.out
                rw [show (p : Int) = (q : Int) by omega] at HO2
                have HO3 := Lib.hid HO2
                clear HO2
                have HT2 : Hid (evenTo h ld n q (k + 1) = true) := Lib.hid (by rw [HST.out]; exact decide_eq_true hpq)
                clear hpq hkn hp64 hknI
                try clear hqp
                go_wp2_with (refine (HO3.out _).mono ?_; rintro e w3 ⟨rfl, rfl⟩)
                go_round
                case rel => exact ⟨k + 1, by omega, by simp, HT2.out⟩
                case measure => simp [intOf]; omega
              · have hne : ((p : Int) != (q : Int)) = true := by rw [bne_iff_ne]; omega
                have HT2 : Hid (evenB h ld n = false) := Lib.hid (HALL.out (by rw [HST.out]; exact decide_eq_false hpq))
                clear hpq hkn hp64 hknI
                try clear hqp
                go_wp2_with (refine (HOS.out _).mono ?_; rintro e w3 ⟨rfl, rfl⟩)
                go_ret
                exact ⟨by rw [HT2.out]; rfl, HB2.out⟩
          · obtain rfl : k = 4 := by omega
            simp only [show ((4 : Nat) : Int) = 4 from rfl]
            go_wp2_with fail
            go_ret
            exact ⟨by rw [HE0.out, HEK.out]; rfl, HB2.out⟩
end Go.Proofs.YtnbillhodbcfbaaDoor

/- Positions over this seat's program: follow. -/
namespace Go.Proofs.YtnbillhodbcfbaaDoor
open Go.RowKit Go.Sort Go.Shelf

theorem dm_suitB (q : Nat) (hq : q < 4) (w : World) : Calls Tryd.prog 68 #[.int .u8 (q : Int)] w fun e w' => e = .returned (.int .u64 ((suitM q : Nat) : Int)) ∧ Below w.heap.size w w' :=
  (dm_suit q hq w).mono fun _ _ ⟨h, e⟩ => ⟨h, e ▸ Below.refl _ _⟩
theorem followTo_mono {h : Nat → Nat} {ld : Nat} {ps : List Nat} : ∀ {k n : Nat}, k ≤ n → followTo h ld ps n = true → followTo h ld ps k = true
  | k, 0, hk, hf => by obtain rfl : k = 0 := by omega
                       rfl
  | k, n + 1, hk, hf => by
    by_cases e : k = n + 1
    · subst e; exact hf
    · exact followTo_mono (by omega) (Bool.and_eq_true_iff.1 (show (followTo h ld ps n && _) = true from hf)).1
set_option maxHeartbeats 2000000 in
set_option maxRecDepth 10000 in
theorem dm_follow (h : Nat → Nat) (tr ld : Nat) (ps : List Nat) (a : Option Addr) (cap : Nat) (hw : ∀ s, W64 (h s)) (hl : ld ≤ 3) (hn : ps.length ≤ 3) (hc : ∀ i, i < ps.length → ps.getD i 0 < 52) (w : World) (hz : Byt w a ps.length ps) :
    Calls Tryd.prog 64 #[.agg (posA h tr ld (.slice a ps.length cap))] w fun e w' => e = .returned (.bool (followTo h ld ps ps.length)) ∧ Below w.heap.size w w' := by
  have HW := Lib.hid hw
  have HC := Lib.hid hc
  have HL := Lib.hid hl
  obtain ⟨n, hnn⟩ : ∃ n, ps.length = n := ⟨_, rfl⟩
  rw [hnn] at hn hz HC ⊢
  obtain ⟨PA, hPA⟩ : ∃ A, posA h tr ld (.slice a n cap) = A := ⟨_, rfl⟩
  have HPA := Lib.hid hPA
  rw [hPA]
  have hb1 := (Below.refl w.heap.size w).alloc (Nat.le_refl _) (.cells PA 27)
  have HB := Lib.hid hb1
  have HR := Lib.hid (Row.new w 27 PA)
  have HZ := Lib.hid (hz.below (Nat.le_refl _) hb1)
  have HN := Lib.hid hn
  obtain ⟨b0, hb0⟩ : ∃ b, w.heap.size = b := ⟨_, rfl⟩
  have HB0 := Lib.hid hb0
  rw [hb0] at HR
  clear hw hPA hl hnn hc hz hb1
  go_enter Tryd.func64, Tryd.ntmps64
  go_upto_region 1 with fail
  clear hb0
  generalize w.alloc (.cells PA 27) = W1 at *
  have c6 : W1.cell? ⟨b0, 6, none⟩ = some (.slice a n cap) := (HR.out.cell 6).trans (by rw [← HPA.out]; rfl)
  have c5 : W1.cell? ⟨b0, 5, none⟩ = some (.int .u8 (ld : Int)) := (HR.out.cell 5).trans (by rw [← HPA.out]; rfl)
  go_wp2_with fail
  clear hn
  go_loopw [2, 3, 4, 5, 9] (fun _ _ _ _ i wr => ∃ k : Nat, k ≤ n ∧ i = .int .i64 (k : Int) ∧ followTo h ld ps k = true ∧ Below W1.heap.size W1 wr) (fun _ _ _ _ i _ => n - (intOf i).toNat)
  case atStart => exact ⟨0, by omega, rfl, rfl, Below.refl _ _⟩
  case round =>
    obtain ⟨k, hk, rfl, hek, hB⟩ := hrel
    have HEK := Lib.hid hek
    have HBk := Lib.hid hB
    clear hek
    have hn := HN.out
    have HRk := Lib.hid (HR.out.later hB)
    have d6 : wr.cell? ⟨b0, 6, none⟩ = some (.slice a n cap) := (HRk.out.cell 6).trans (by rw [← HPA.out]; rfl)
    have d5 : wr.cell? ⟨b0, 5, none⟩ = some (.int .u8 (ld : Int)) := (HRk.out.cell 5).trans (by rw [← HPA.out]; rfl)
    by_cases hlt : k < n
    · have hdk : decide (k < n) = true := by simp; omega
      obtain ⟨bb, off, ha, hbl, hcells⟩ := (HZ.out.below (Nat.le_refl _) hB).at (by omega)
      have e0 := hcells 0 (by omega)
      have ek := hcells k hlt
      rw [Nat.add_zero] at e0
      have hx := HC.out k hlt
      have hy := HC.out 0 (by omega)
      have HST : Hid (followTo h ld ps (k + 1) = (decide (ps.getD k 0 / 13 = ps.getD 0 0 / 13) || land (h ((ld + k) % 4)) (suitM (ps.getD 0 0 / 13)) == 0)) := Lib.hid (by
        show (followTo h ld ps k && _) = _
        rw [HEK.out]; rfl)
      have HNO : Hid (followTo h ld ps (k + 1) = false → followTo h ld ps n = false) := Lib.hid fun e => by
        cases hf : followTo h ld ps n
        · rfl
        · rw [followTo_mono (by omega) hf] at e; cases e
      have hmod : ((ld : Int) + (k : Int)) % 4 = (((ld + k) % 4 : Nat) : Int) := by omega
      have hs4 : (ld + k) % 4 < 4 := Nat.mod_lt _ (by decide)
      have cS : wr.cell? ⟨b0, (ld + k) % 4, none⟩ = some (.int .u64 (h ((ld + k) % 4) : Int)) := (HRk.out.cell _).trans (by rw [← HPA.out]; exact posA_h h tr ld _ hs4)
      have hsw := HW.out ((ld + k) % 4)
      obtain ⟨s, hs⟩ : ∃ s, (ld + k) % 4 = s := ⟨_, rfl⟩
      rw [hs] at hmod hs4 cS HST hsw
      obtain ⟨x, hxx⟩ : ∃ x, ps.getD k 0 = x := ⟨_, rfl⟩
      obtain ⟨y, hyy⟩ : ∃ y, ps.getD 0 0 = y := ⟨_, rfl⟩
      rw [hxx] at ek hx HST
      rw [hyy] at e0 hy HST
      have hx13 : (x : Int) / 13 = ((x / 13 : Nat) : Int) := by omega
      have hy13 : (y : Int) / 13 = ((y / 13 : Nat) : Int) := by omega
      have hy4 : y / 13 < 4 := by omega
      obtain ⟨X, hX⟩ : ∃ X, x / 13 = X := ⟨_, rfl⟩
      obtain ⟨Y, hY⟩ : ∃ Y, y / 13 = Y := ⟨_, rfl⟩
      rw [hX] at hx13 HST
      rw [hY] at hy13 HST hy4
      clear hs hxx hyy hX hY hcells hB hk
      subst ha
      have hl := HL.out
      by_cases hXY : X = Y
      · subst hXY
        have HT2 : Hid (followTo h ld ps (k + 1) = true) := Lib.hid (by rw [HST.out]; simp)
        go_wp2_with fail
        refine wp_region_quiet_below (by kernel_rfl) (by kernel_rfl) ?_
        repeat (first | go_big_quiet_step (fail) | quiet_step (fail))
        refine wpQuiet_nil ?_
        rintro _ ⟨p, rfl⟩
        have HB5 := Lib.hid (HBk.out.trans ((below_regrown wr p.d p.os).mono HBk.out.size))
        generalize grow (redrawn wr p.d) p.os = wa at *
        go_wp2_with fail
        exact ⟨⟨k + 1, by omega, by simp, HT2.out, HB5.out⟩, by simp [intOf]; omega⟩
      · have hne : ((X : Int) != (Y : Int)) = true := by rw [bne_iff_ne]; omega
        have hrem : Int.tmod ((ld : Int) + (k : Int)) 4 = (s : Int) := by rw [Int.tmod_eq_emod_of_nonneg (by omega)]; exact hmod
        have hwr : IntKind.i64.wrap ((ld : Int) + (k : Int)) = (ld : Int) + (k : Int) := IntWalk.i64_in _ (by omega)
        have hsi : (s : Int) < 4 := by omega
        have hand := run_and64 (h s) (suitM Y) hsw (suitM_w64 hy4)
        obtain ⟨r, hr⟩ : ∃ r, land (h s) (suitM Y) = r := ⟨_, rfl⟩
        rw [hr] at hand HST
        have HSU := Lib.hid (fun W => dm_suitB Y hy4 W)
        clear hr
        by_cases hr0 : r = 0
        · have HT2 : Hid (followTo h ld ps (k + 1) = true) := Lib.hid (by rw [HST.out, hr0]; simp)
          have hrb : ((r : Int) != 0) = false := by simp; omega
          clear hr0
          have f5 := fun dd os => cell_regrown d5 dd os
          have fS := fun dd os => cell_regrown cS dd os
          go_wp2_with fail
          refine wp_region_quiet_below (by kernel_rfl) (by kernel_rfl) ?_
          repeat (first | go_big_quiet_step (fail) | quiet_step (with_reducible exact Calls.regrown_of (HSU.out _)))
          refine wpQuiet_nil ?_
          rintro _ ⟨p, rfl⟩
          have HB5 := Lib.hid (HBk.out.trans ((below_regrown wr p.d p.os).mono HBk.out.size))
          generalize grow (redrawn wr p.d) p.os = wa at *
          clear f5 fS
          go_wp2_with fail
          exact ⟨⟨k + 1, by omega, by simp, HT2.out, HB5.out⟩, by simp [intOf]; omega⟩
        · have HT2 : Hid (followTo h ld ps n = false) := Lib.hid (HNO.out (by rw [HST.out, decide_eq_false hXY, Bool.false_or, beq_eq_false_iff_ne]; exact hr0))
          have hrb : ((r : Int) != 0) = true := by rw [bne_iff_ne]; omega
          clear hr0
          have f5 := fun dd os => cell_regrown d5 dd os
          have fS := fun dd os => cell_regrown cS dd os
          go_wp2_with fail
          refine wp_region_quiet_below (by kernel_rfl) (by kernel_rfl) ?_
          repeat (first | go_big_quiet_step (fail) | quiet_step (with_reducible exact Calls.regrown_of (HSU.out _)))
          refine wpQuiet_nil ?_
          rintro _ ⟨p, rfl⟩
          have HB5 := Lib.hid (HBk.out.trans ((below_regrown wr p.d p.os).mono HBk.out.size))
          generalize grow (redrawn wr p.d) p.os = wa at *
          clear f5 fS
          go_wp2_with fail
          go_ret
          exact ⟨by rw [HT2.out]; rfl, HB.out.trans (HB5.out.mono HB.out.size)⟩
    · obtain rfl : k = n := by omega
      have hdk : decide (k < k) = false := by simp
      go_wp2_with fail
      go_ret
      exact ⟨by rw [HEK.out]; rfl, HB.out.trans (HBk.out.mono HB.out.size)⟩
end Go.Proofs.YtnbillhodbcfbaaDoor
