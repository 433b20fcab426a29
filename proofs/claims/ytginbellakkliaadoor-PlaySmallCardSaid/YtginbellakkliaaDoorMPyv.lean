/- PyV, PyW in one text. -/
import Derived.Test.YtginbellakkliaaDoorMPyq

/- finesselaw12.chosen and card over this seat's program. -/
namespace Go.Proofs.YtginbellakkliaaDoor
open Go.RowKit Go.Shelf Go.Sort
attribute [local go_sem] Oper.semAt_some

theorem drop1_run {m : Nat} (h0 : m ≠ 0) (h : W64 m) : bits BinOp.and IntKind.u64 (m : Int) (IntKind.u64.wrap ((m : Int) - 1)) = ((drop1 m : Nat) : Int) := by
  have e : IntKind.u64.wrap ((m : Int) - 1) = ((m - 1 : Nat) : Int) := by
    unfold W64 at h; rw [IntKind.wrap_u64]; omega
  rw [e, bits_and_nat m _ h (by unfold W64 at *; omega)]; rfl
/-- the number that chooses -/
def choV (zs : List Nat) (i : Nat) : Nat := if zs.length = 0 then 0 else zs.getD (i % zs.length) 0
theorem law12_chosenV (a : Option Addr) (len cap : Nat) (zs : List Nat) (i : Nat) (w : World) (hz : Byt w a len zs) (hi : i ≤ 4611686018427387904) :
    Calls Tryd.prog 17 #[.slice a len cap, .int .i64 (i : Int)] w fun e w' => e = .returned (.int .u8 (choV zs i : Int)) ∧ w = w' := by
  unfold choV
  rw [hz.length]
  by_cases h0 : len = 0
  · rw [if_pos h0]
    have hl0 : ((len : Int) == 0) = true := by rw [beq_iff_eq]; omega
    go_enter Tryd.func17, Tryd.ntmps17
    go_wp2_with fail
    go_ret
    exact ⟨rfl, rfl⟩
  · rw [if_neg h0]
    obtain ⟨b, off, rfl, hb, hcs⟩ := hz.at (by omega)
    have hk : i % len < len := Nat.mod_lt _ (by omega)
    have hc := hcs (i % len) hk
    have hby := hz.byte (i % len)
    have hkk : (i : Int) % (len : Int) = ((i % len : Nat) : Int) := by omega
    have hl0 : ((len : Int) == 0) = false := by rw [beq_eq_false_iff_ne]; omega
    have hl1 : ((len : Int) = 0) = False := by simp; omega
    clear hcs
    generalize i % len = k at *
    go_enter Tryd.func17, Tryd.ntmps17
    go_wp2_with fail
    go_ret
    exact ⟨rfl, rfl⟩
theorem choV_lt {w : World} {a : Option Addr} {len : Nat} {zs : List Nat} (hz : Byt w a len zs) (i : Nat) : choV zs i < 256 := by
  unfold choV; split
  · decide
  · exact hz.byte _
theorem law12_chosen (a : Option Addr) (len cap : Nat) (zs : List Nat) (i : Nat) (w : World) (hz : Byt w a len zs) (hi : i ≤ 4611686018427387904) :
    Calls Tryd.prog 17 #[.slice a len cap, .int .i64 (i : Int)] w fun e w' => (∃ v : Nat, v < 256 ∧ e = .returned (.int .u8 (v : Int))) ∧ w = w' :=
  (law12_chosenV a len cap zs i w hz hi).mono fun _ _ ⟨he, hw⟩ => ⟨⟨_, choV_lt hz i, he⟩, hw⟩
/-- the k lowest bits taken off -/
def dropK (m : Nat) : Nat → Nat
  | 0 => m
  | k + 1 => drop1 (dropK m k)
/-- the card that a number chooses -/
def pickV (m n : Nat) : Nat := Lib.ctz 64 (dropK m (n % pop m))
theorem dropK_spec {m : Nat} (hm : W64 m) : ∀ k, k < pop m → pop (dropK m k) + k = pop m ∧ (∀ i, (dropK m k).testBit i = true → m.testBit i = true) ∧ W64 (dropK m k)
  | 0, _ => ⟨rfl, fun _ h => h, hm⟩
  | k + 1, h => by
    obtain ⟨h1, h2, h3⟩ := dropK_spec hm k (by omega)
    have h0 : dropK m k ≠ 0 := by intro e; rw [e, pop_nil] at h1; omega
    have := pop_drop1 h0 h3
    refine ⟨by unfold dropK; omega, fun i hi => h2 i ?_, drop1_w64 h3⟩
    unfold dropK at hi
    rw [drop1_bit _ i h0 h3, Bool.and_eq_true] at hi; exact hi.1
theorem pop_pos1 {m : Nat} (hm : W64 m) (h0 : m ≠ 0) : 1 ≤ pop m := by
  rcases Nat.eq_zero_or_pos (pop m) with h | h
  · exact absurd (pop_zero hm h) h0
  · exact h
theorem pickV_spec {m : Nat} (hm : W64 m) (h0 : m ≠ 0) (n : Nat) : pickV m n < 64 ∧ m.testBit (pickV m n) = true := by
  have hp := pop_pos1 hm h0
  obtain ⟨h1, h2, h3⟩ := dropK_spec hm (n % pop m) (Nat.mod_lt _ hp)
  have hx : dropK m (n % pop m) ≠ 0 := by intro e; rw [e, pop_nil] at h1; have := Nat.mod_lt n hp; omega
  unfold pickV
  refine ⟨?_, h2 _ (ctz_bit _ hx h3).1⟩
  obtain ⟨_, _, h⟩ := ctz_spec _ hx h3
  exact h
set_option maxHeartbeats 400000 in
theorem law12_cardV (m n : Nat) (hm : W64 m) (h0 : m ≠ 0) (hn : n < 256) (w : World) (hT : Tab w) :
    Calls Tryd.prog 16 #[.int .u64 (m : Int), .int .u8 (n : Int)] w fun e w' => e = .returned (.int .u8 (pickV m n : Int)) ∧ w = w' := by
  have hp : 1 ≤ pop m := pop_pos1 hm h0
  have HDK := Lib.hid (fun k => dropK_spec hm k)
  unfold pickV
  have hp64 : pop m ≤ 64 := cnt_le m 64
  obtain ⟨K, hK⟩ : ∃ K, K = n % pop m := ⟨_, rfl⟩
  rw [← hK]
  have hKp : K < pop m := by rw [hK]; exact Nat.mod_lt _ hp
  have hKi : (n : Int) % ((pop m : Nat) : Int) = (K : Int) := by rw [hK]; omega
  have hO := Lib.hid (bits_ones m hm w)
  have hpd : decide (((pop m : Nat) : Int) < 1) = false := by rw [decide_eq_false_iff_not]; omega
  have hpd2 : decide ((1 : Int) < ((pop m : Nat) : Int)) = decide (1 < pop m) := by rw [decide_eq_decide]; omega
  obtain ⟨P, hP⟩ : ∃ P, P = pop m := ⟨_, rfl⟩
  rw [← hP] at hO hp hp64 hKp hKi hpd hpd2 HDK
  have HP := Lib.hid hP
  clear hP hK
  go_enter Tryd.func16, Tryd.ntmps16
  go_wp2_with (go_at_call 27; refine hO.out.mono ?_; rintro e w' ⟨rfl, rfl⟩)
  rw [hKi]
  clear hKi hpd hpd2
  go_loopw [0, 11] (fun m' j w2 => ∃ k : Nat, m' = .int .u64 (dropK m k : Int) ∧ j = .int .i64 (k : Int) ∧ k ≤ K ∧ w2 = w) (fun _ j _ => K - (intOf j).toNat)
  case atStart => exact ⟨0, rfl, rfl, by omega, rfl⟩
  case round =>
    obtain ⟨k, rfl, rfl, hk, rfl⟩ := hrel
    obtain ⟨hpx, _, hx⟩ := HDK.out k (by omega)
    have hx0 : dropK m k ≠ 0 := by intro e; rw [e, pop_nil] at hpx; omega
    have HSU := Lib.hid (show drop1 (dropK m k) = dropK m (k + 1) from rfl)
    clear hpx
    by_cases hkK : k < K
    · generalize dropK m k = x at *
      have hdr := drop1_run hx0 hx
      go_wp2_with fail
      go_roundw
      case rel => exact ⟨k + 1, by rw [HSU.out], by go_num, by omega, trivial⟩
      case measure => simp [intOf]; omega
    · have hke : k = K := by omega
      subst hke
      have hz := bits_tz (dropK m k) hx hx0 wr hT
      have hc : Lib.ctz 64 (dropK m k) < 64 := by obtain ⟨_, _, h⟩ := ctz_spec _ hx0 hx; exact h
      obtain ⟨x, hxe⟩ : ∃ x, dropK m k = x := ⟨_, rfl⟩
      rw [hxe] at hz hc hx hx0 ⊢
      obtain ⟨c, hce⟩ : ∃ c, Lib.ctz 64 x = c := ⟨_, rfl⟩
      rw [hce] at hz hc
      have HX := Lib.hid hxe
      have HC := Lib.hid hce
      clear hxe hce
      go_wp2_with (go_at_call 45; refine hz.mono ?_; rintro e w' ⟨rfl, rfl⟩)
      go_ret
      exact ⟨by rw [HX.out, HC.out]; rfl, rfl⟩
theorem law12_card (m n : Nat) (hm : W64 m) (h0 : m ≠ 0) (hn : n < 256) (w : World) (hT : Tab w) :
    Calls Tryd.prog 16 #[.int .u64 (m : Int), .int .u8 (n : Int)] w fun e w' => (∃ c : Nat, c < 64 ∧ m.testBit c = true ∧ e = .returned (.int .u8 (c : Int))) ∧ w = w' :=
  (law12_cardV m n hm h0 hn w hT).mono fun _ _ ⟨he, hw⟩ => ⟨⟨_, (pickV_spec hm h0 n).1, (pickV_spec hm h0 n).2, he⟩, hw⟩
end Go.Proofs.YtginbellakkliaaDoor

/- Plain: a table turned; two plays in one memory. -/
namespace Go.Proofs.YtginbellakkliaaDoor
open Go.RowKit Go.Shelf Go.Sort

theorem dealOk4 {d : Nat → Nat} {n : Nat} (h : Deal4 d n) : dealOk d = true := by
  refine dealOk_yes fun i hi => ?_
  have hw : ∀ j, W64 (d j) := fun j => Nat.lt_of_lt_of_le (h.lt j) (by decide)
  have hl : ∀ j, j < 4 → (downL (d j)).length = n := fun j hj => downL_pop _ _ (hw j) (h.pop j hj)
  have h2 : land (allTo d i) (d i) = 0 := by
    refine land_zero fun c hq => ?_
    obtain ⟨j, hj, hc⟩ := allTo_bit _ i c hq
    exact h.apart j i c (by omega) hc
  unfold handOk
  rw [hl i hi, h2, decide_eq_true (h.lt i), decide_eq_true h.pos, decide_eq_true h.le]
  by_cases h0 : i = 0
  · subst h0; rfl
  · have : numTo d i = n := by unfold numTo; rw [if_neg h0, hl (i - 1) (by omega)]
    rw [this]; simp
theorem newE4 {d : Nat → Nat} {n lv dn rk dc : Nat} (h : Deal4 d n) (h1 : 1 ≤ lv) (h2 : lv ≤ 7) (h3 : dn ≤ 4) (h4 : rk ≤ 2) (h5 : dc ≤ 3) : newE d lv dn rk dc = 0 := by
  have hl : (leadV lv dn rk dc).2 = 0 := by
    unfold leadV
    rw [if_neg (by omega), if_pos ⟨h2, h3, h4, h5⟩]
  unfold newE
  rw [if_pos hl, if_pos (dealOk4 h)]
theorem PInv.new4 {d : Nat → Nat} {n lv dn rk dc : Nat} (h : Deal4 d n) (hok : newE d lv dn rk dc = 0) : PInv d n (newP d lv dn rk dc) 0 := by
  refine ⟨newP_ok (fun j => Nat.lt_of_lt_of_le (h.lt j) (by decide)) hok, fun j c h => h, fun j hj => ?_, rfl, (fun y hy => by cases hy), (fun i hi => by cases hi), List.nodup_nil, fun j c h => .inl h, (fun y hy => by cases hy), h.far⟩
  unfold newP
  simp only [Nat.not_lt_zero, if_false, Nat.add_zero]
  exact h.pop j hj
/-- the complete tricks behind one more card -/
theorem tkTo_app (p : Ply) (s : Stp) (st : PSt) : ∀ k, 4 * k ≤ p.steps.length → ({ p with st := st, steps := p.steps ++ [s] } : Ply).tkTo k = p.tkTo k
  | 0, _ => rfl
  | k + 1, h => by
    unfold Ply.tkTo
    rw [tkTo_app p s st k (by omega)]
    congr 1
    show (match (p.steps ++ [s])[4 * k + 3]? with | none => [] | some x => [x.tk p.dn]) = _
    rw [List.getElem?_append_left (by omega)]
    cases p.steps[4 * k + 3]? <;> rfl
theorem tks_back (p : Ply) (l : List Nat) : ({ p with back := l } : Ply).tks = p.tks := by
  have : ∀ k, ({ p with back := l } : Ply).tkTo k = p.tkTo k := by
    intro k
    induction k with
    | zero => rfl
    | succ k ih => unfold Ply.tkTo; rw [ih]
  exact this _
theorem new_tks (d : Nat → Nat) (lv dn rk dc : Nat) : (newP d lv dn rk dc).tks = [] := by simp [Ply.tks, newP, Ply.tkTo]
theorem put_tks (p : Ply) (c : Nat) (t : Nat) (hl : p.steps.length = 4 * t + p.st.ct) (hct : p.st.ct < 4) : (p.put c).tks = p.tks ++ (if p.st.ct = 3 then [Stp.tk ⟨p.st, c⟩ p.dn] else []) := by
  unfold Ply.tks
  have h1 : (p.put c).steps.length = p.steps.length + 1 := by unfold Ply.put; rw [List.length_append]; rfl
  have h2 : p.steps.length / 4 = t := by omega
  rw [h1, h2]
  by_cases h3 : p.st.ct = 3
  · rw [if_pos h3, show (p.steps.length + 1) / 4 = t + 1 by omega]
    show (Ply.put p c).tkTo t ++ _ = _
    have := tkTo_app p ⟨p.st, c⟩ (p.st.put p.dn c) t (by omega)
    unfold Ply.put
    rw [this]
    congr 1
    show (match (p.steps ++ [⟨p.st, c⟩])[4 * t + 3]? with | none => [] | some x => [x.tk p.dn]) = _
    rw [List.getElem?_append_right (by omega), show 4 * t + 3 - p.steps.length = 0 by omega]
    rfl
  · rw [if_neg h3, List.append_nil, show (p.steps.length + 1) / 4 = t by omega]
    exact tkTo_app p ⟨p.st, c⟩ (p.st.put p.dn c) t (by omega)
theorem tkWon_app (l : List Tk) (x : Tk) (s : Nat) : tkWon (l ++ [x]) s = tkWon l s + if x.win % 2 = s then 1 else 0 := by
  unfold tkWon
  rw [List.filter_append, List.length_append]
  congr 1
  by_cases h : x.win % 2 = s <;> simp [h]
theorem seatV_right {dn ld : Nat} {zs : List Nat} (hdn : dn ≤ 4) (hld : ld ≤ 3) (hr : rightB zs = true) : seatV dn ld zs = ((ld + (winnerV dn zs).1) % 4, 0) := by
  have hw : (winnerV dn zs).2 = 0 := by unfold winnerV; rw [if_neg (by omega), if_pos hr]
  unfold seatV
  rw [if_neg (by omega), if_pos hw]
theorem PInv.full_right {d : Nat → Nat} {n t : Nat} {p : Ply} (h : PInv d n p t) (hd : Deal4 d n) {c : Nat} (hc : p.st.legal.testBit c = true) (h3 : p.st.ct = 3) : rightB [p.st.cs 0, p.st.cs 1, p.st.cs 2, c] = true := by
  have ht : p.st.trick = [p.st.cs 0, p.st.cs 1, p.st.cs 2] := by unfold PSt.trick; rw [h3]; rfl
  have hh := h.legal_sub hd hc
  have h52 := h.legal_52 hd hc
  have hnd := h.nd
  have hno := h.trickNo p.st.next
  have hlt := h.trick52
  rw [ht] at hnd hno hlt
  refine (y_rightB_iff _).2 ⟨by simp, by simp, ?_, ?_⟩
  · intro x hx
    simp only [List.mem_cons, List.not_mem_nil, or_false] at hx
    rcases hx with rfl | rfl | rfl | rfl
    · exact hlt _ (by simp)
    · exact hlt _ (by simp)
    · exact hlt _ (by simp)
    · exact h52
  · have : [p.st.cs 0, p.st.cs 1, p.st.cs 2, c] = [p.st.cs 0, p.st.cs 1, p.st.cs 2] ++ [c] := rfl
    rw [this]
    refine List.nodup_append.2 ⟨hnd, by simp, fun a ha b hb => ?_⟩
    rw [List.mem_singleton.1 hb]
    rintro rfl
    rw [hno _ ha] at hh; cases hh
/-- q is p with the table turned by b -/
structure Trn (b : Nat) (p q : Ply) : Prop where
  h : ∀ j, j < 4 → q.st.h ((j + b) % 4) = p.st.h j
  ld : q.st.ld = (p.st.ld + b) % 4
  ct : q.st.ct = p.st.ct
  cs : q.st.cs = p.st.cs
  dn : q.dn = p.dn
  dc : q.dc = (p.dc + b) % 4
  won : ∀ s, s < 2 → tkWon q.tks ((s + b) % 2) = tkWon p.tks s
theorem Trn.next {b : Nat} {p q : Ply} (h : Trn b p q) : q.st.next = (p.st.next + b) % 4 := by
  unfold PSt.next; rw [h.ld, h.ct]; omega
theorem Trn.hnext {b : Nat} {p q : Ply} (h : Trn b p q) : q.st.h q.st.next = p.st.h p.st.next := by
  rw [h.next]; exact h.h _ (next_lt _)
theorem Trn.trick {b : Nat} {p q : Ply} (h : Trn b p q) : q.st.trick = p.st.trick := by
  unfold PSt.trick; rw [h.ct, h.cs]
theorem Trn.over {b : Nat} (hb : b < 4) {p q : Ply} (h : Trn b p q) : q.st.over = p.st.over := by
  rw [Bool.eq_iff_iff, over_iff, over_iff]
  constructor
  · intro ho j hj; rw [← h.h j hj]; exact ho _ (Nat.mod_lt _ (by decide))
  · intro ho j hj
    have := h.h ((j + 4 - b) % 4) (Nat.mod_lt _ (by decide))
    rw [show ((j + 4 - b) % 4 + b) % 4 = j by omega] at this
    rw [this]; exact ho _ (Nat.mod_lt _ (by decide))
theorem Trn.legal {b : Nat} (hb : b < 4) {p q : Ply} (h : Trn b p q) : q.st.legal = p.st.legal := by
  unfold PSt.legal; rw [h.over hb, h.hnext, h.trick]
theorem Trn.put {b n t : Nat} {d : Nat → Nat} {p q : Ply} (h : Trn b p q) (_hb : b < 4) (hd : Deal4 d n) (hp : PInv d n p t) (hq : q.ok) (hql : q.steps.length = 4 * t + q.st.ct) {c : Nat} (hc : p.st.legal.testBit c = true) :
    Trn b (({ p with back := [] } : Ply).put c) (({ q with back := [] } : Ply).put c) := by
  have hh : ∀ j, j < 4 → (q.st.put q.dn c).h ((j + b) % 4) = (p.st.put p.dn c).h j := by
    intro j hj
    have e1 : ∀ (s : PSt) dn, (s.put dn c).h = setH s.h s.next (landn (s.h s.next) (shl1 c)) := by intro s dn; unfold PSt.put; split <;> rfl
    rw [e1, e1, h.hnext]
    unfold setH
    have hn := h.next
    have hn4 := next_lt p.st
    by_cases hj2 : j = p.st.next
    · rw [if_pos hj2, if_pos (by rw [hn, hj2])]
    · rw [if_neg hj2, if_neg (by rw [hn]; omega)]; exact h.h j hj
  have hwin : p.st.ct = 3 → (seatV q.dn q.st.ld [q.st.cs 0, q.st.cs 1, q.st.cs 2, c]).1 = ((seatV p.dn p.st.ld [p.st.cs 0, p.st.cs 1, p.st.cs 2, c]).1 + b) % 4 := by
    intro h3
    have hr := hp.full_right hd hc h3
    have hld := hp.ok.st.ld
    rw [h.dn, h.ld, h.cs, seatV_right hp.ok.dn (by omega) hr, seatV_right hp.ok.dn (by omega) hr]
    show ((p.st.ld + b) % 4 + _) % 4 = ((p.st.ld + _) % 4 + b) % 4
    omega
  refine ⟨hh, ?_, ?_, ?_, h.dn, h.dc, ?_⟩
  · show (q.st.put q.dn c).ld = ((p.st.put p.dn c).ld + b) % 4
    unfold PSt.put
    rw [h.ct]
    by_cases h3 : p.st.ct = 3
    · rw [if_pos h3, if_pos h3]; exact hwin h3
    · rw [if_neg h3, if_neg h3]; exact h.ld
  · show (q.st.put q.dn c).ct = (p.st.put p.dn c).ct
    unfold PSt.put
    rw [h.ct]
    split <;> rfl
  · show (q.st.put q.dn c).cs = (p.st.put p.dn c).cs
    unfold PSt.put
    rw [h.ct]
    split
    · rfl
    · show setH q.st.cs p.st.ct c = _; rw [h.cs]
  · intro s hs
    have hp2 := put_tks ({ p with back := [] } : Ply) c t hp.many (by have := hp.ok.st.ct; exact this)
    have hq2 := put_tks ({ q with back := [] } : Ply) c t hql (by have := hq.st.ct; exact this)
    rw [hp2, hq2, tks_back q [], tks_back p []]
    show tkWon (q.tks ++ if q.st.ct = 3 then [Stp.tk ⟨q.st, c⟩ q.dn] else []) _ = tkWon (p.tks ++ if p.st.ct = 3 then [Stp.tk ⟨p.st, c⟩ p.dn] else []) s
    rw [h.ct]
    by_cases h3 : p.st.ct = 3
    · rw [if_pos h3, if_pos h3, tkWon_app, tkWon_app, h.won s hs]
      have e := hwin h3
      have e1 : (Stp.tk ⟨q.st, c⟩ q.dn).win = ((Stp.tk ⟨p.st, c⟩ p.dn).win + b) % 4 := e
      rw [e1]
      congr 1
      by_cases hh2 : (Stp.tk ⟨p.st, c⟩ p.dn).win % 2 = s
      · rw [if_pos hh2, if_pos (by omega)]
      · rw [if_neg hh2, if_neg (by omega)]
    · rw [if_neg h3, if_neg h3, List.append_nil, List.append_nil]; exact h.won s hs
theorem Trn.new {d f : Nat → Nat} {lv dn rk dc b : Nat} (h : ∀ j, j < 4 → f ((j + b) % 4) = d j) : Trn b (newP d lv dn rk dc) (newP f lv dn rk ((dc + b) % 4)) :=
  ⟨h, by show ((dc + b) % 4 + 1) % 4 = ((dc + 1) % 4 + b) % 4; omega, rfl, rfl, rfl, rfl, fun s _ => by rw [new_tks, new_tks]; rfl⟩
theorem turned_deal {d f : Nat → Nat} {n b : Nat} (hd : Deal4 d n) (hb : b < 4) (h : ∀ j, j < 4 → f ((j + b) % 4) = d j) (hf : ∀ j, 4 ≤ j → f j = 0) : Deal4 f n := by
  have e : ∀ j, j < 4 → f j = d ((j + 4 - b) % 4) := fun j hj => by
    have := h ((j + 4 - b) % 4) (Nat.mod_lt _ (by decide))
    rwa [show ((j + 4 - b) % 4 + b) % 4 = j by omega] at this
  refine ⟨fun j => ?_, fun j j' c hjj hc => ?_, fun j hj => ?_, hd.pos, hd.le, hf⟩
  · by_cases hj : j < 4
    · rw [e j hj]; exact hd.lt _
    · rw [hf j (by omega)]; decide
  · by_cases hj : j < 4
    · by_cases hj' : j' < 4
      · rw [e j hj] at hc; rw [e j' hj']
        exact hd.apart _ _ c (by omega) hc
      · rw [hf j' (by omega)]; exact Nat.zero_testBit _
    · rw [hf j (by omega)] at hc; simp at hc
  · rw [e j hj]; exact hd.pop _ (Nat.mod_lt _ (by decide))
/-- another's blocks may change -/
theorem InP.other {W W' : World} {B : Nat} {p : Ply} {G S : Nat → Prop} (h : InP W B p G) (hk : Kept S W W') (hS : ∀ b, b < W.heap.size → S b ∨ G b) (ht : S 0) :
    InP W' B p (fun b => G b ∨ (W.heap.size ≤ b ∧ b < W'.heap.size)) := by
  obtain ⟨vs, vb, h1, h2, h3⟩ := h.mem
  have hBl := h.at
  have hSB : S B := (hS B hBl).resolve_right h.nb
  have hv : ∀ {α : Type} {enc : α → List Value} {m : Nat} {T : TypeId} {v : Value} {l : List α}, Owns enc m T W 0 v l → ∀ g, v.ownBlock = some g → g < W.heap.size := by
    intro α enc m T v l ho g e
    rcases ho.2.2 with ⟨rfl, _⟩ | ⟨g', cap, cur, rfl, _, h2, _⟩
    · simp [Value.ownBlock] at e
    · obtain rfl : g' = g := by simpa [Value.ownBlock] using e
      exact (Array.getElem?_eq_some_iff.1 h2).1
  have h4 : ∀ {α : Type} {enc : α → List Value} {m : Nat} {T : TypeId} {v : Value} {l : List α}, Owns enc m T W 0 v l → (∀ g, v.ownBlock = some g → ¬ G g) → Owns enc m T W' 0 v l := by
    intro α enc m T v l ho hn
    refine ⟨ho.1, ho.2.1, ?_⟩
    rcases ho.2.2 with ⟨rfl, q⟩ | ⟨g', cap, cur, rfl, q1, q2, q3⟩
    · exact .inl ⟨rfl, q⟩
    · have hl := (Array.getElem?_eq_some_iff.1 q2).1
      refine .inr ⟨g', cap, cur, rfl, q1, ?_, q3⟩
      rw [hk.block g' ((hS g' hl).resolve_right (hn g' (by simp [Value.ownBlock]))) hl]
      exact q2
  refine ⟨h.ok, ⟨vs, vb, ⟨h1.row.kept hSB hk, h4 h1.ss h2, h4 h1.bs h3, h1.ns, h1.nb, h1.sb⟩, fun g e hg => ?_, fun g e hg => ?_⟩, fun hg => ?_, fun g hg => ?_, tab_kept h.tab ht hk, .inl h.tg⟩
  · rcases hg with hg | hg
    · exact h2 g e hg
    · have := hv h1.ss g e; omega
  · rcases hg with hg | hg
    · exact h3 g e hg
    · have := hv h1.bs g e; omega
  · rcases hg with hg | hg
    · exact h.nb hg
    · omega
  · rcases hg with hg | hg
    · exact Nat.lt_of_lt_of_le (h.lt g hg) hk.size
    · exact hg.2
/-- two plays lie in memory, and G is foreign to both -/
def In2 (W : World) (B1 : Nat) (p : Ply) (B2 : Nat) (q : Ply) (G : Nat → Prop) : Prop :=
  ∃ G1 G2, InP W B1 p G1 ∧ InP W B2 q G2 ∧ (∀ b, b < W.heap.size → G1 b ∨ G2 b) ∧ ∀ b, G b → G1 b ∧ G2 b
theorem In2.swap {W : World} {B1 B2 : Nat} {p q : Ply} {G : Nat → Prop} (h : In2 W B1 p B2 q G) : In2 W B2 q B1 p G := by
  obtain ⟨G1, G2, h1, h2, h3, h4⟩ := h
  exact ⟨G2, G1, h2, h1, fun b hb => (h3 b hb).symm, fun b hb => (h4 b hb).symm⟩
theorem In2.fst {W : World} {B1 B2 : Nat} {p q : Ply} {G : Nat → Prop} (h : In2 W B1 p B2 q G) : ∃ G1, InP W B1 p G1 := by
  obtain ⟨G1, _, h1, _⟩ := h; exact ⟨G1, h1⟩
theorem In2.below {W W' : World} {B1 B2 : Nat} {p q : Ply} {G : Nat → Prop} (h : In2 W B1 p B2 q G) (hb : Below W.heap.size W W') : In2 W' B1 p B2 q G := by
  obtain ⟨G1, G2, h1, h2, h3, h4⟩ := h
  refine ⟨fun b => G1 b ∨ (W.heap.size ≤ b ∧ b < W'.heap.size), G2, h1.more hb (fun g hg => hg) (.inl h1.tg), h2.below hb, fun b hl => ?_, fun b hg => ⟨.inl (h4 b hg).1, (h4 b hg).2⟩⟩
  by_cases hq : b < W.heap.size
  · rcases h3 b hq with h5 | h5
    · exact .inl (.inl h5)
    · exact .inr h5
  · exact .inl (.inr ⟨by omega, hl⟩)
theorem In2.do {W : World} {B1 B2 : Nat} {p q : Ply} {G : Nat → Prop} (h : In2 W B1 p B2 q G) (c : Nat) (hc : c < 256) (hq : (p.doV c).2.ok) :
    Calls Tryd.prog 18 #[.pointer (some ⟨B1, 0, none⟩), .int .u8 (c : Int)] W fun e W' => e = .returned (.int .i64 ((p.doV c).1 : Int)) ∧ In2 W' B1 (p.doV c).2 B2 q G ∧ Kept G W W' := by
  obtain ⟨G1, G2, h1, h2, h3, h4⟩ := h
  refine (in_do h1 c hc hq).mono fun e W' ⟨he, hi, hk⟩ => ⟨he, ⟨G1, _, hi, h2.other hk h3 h1.tg, fun b hb => ?_, fun b hg => ⟨(h4 b hg).1, .inl (h4 b hg).2⟩⟩, hk.mono fun b hg => (h4 b hg).1⟩
  by_cases hq : b < W.heap.size
  · rcases h3 b hq with h5 | h5
    · exact .inl h5
    · exact .inr (.inl h5)
  · exact .inr (.inr ⟨by omega, hb⟩)
theorem In2.new {W W' : World} {B1 B2 : Nat} {p q : Ply} {G : Nat → Prop} (h1 : InP W B1 p G) (h2 : InP W' B2 q (fun b => b < W.heap.size)) (hb : Below W.heap.size W W') : In2 W' B1 p B2 q G := by
  refine ⟨fun b => G b ∨ (W.heap.size ≤ b ∧ b < W'.heap.size), _, h1.more hb (fun g hg => hg) (.inl h1.tg), h2, fun b hl => ?_, fun b hg => ⟨.inl hg, h1.lt b hg⟩⟩
  by_cases hq : b < W.heap.size
  · exact .inr hq
  · exact .inl (.inr ⟨by omega, hl⟩)
end Go.Proofs.YtginbellakkliaaDoor
