/- Plain: acts of finesselaw14, and what every act keeps of a table of a deal. -/
import Derived.Test.YtgnlmodaekfhfaaDoorLdS
import Derived.Test.YtgnlmodaekfhfaaDoorLdF
namespace Go.Proofs.YtgnlmodaekfhfaaDoor
open Go.RowKit Go.Shelf Go.Sort

/-- an act -/
structure AcT where
  kind : Nat
  seat : Nat
  card : Nat
/-- finesselaw14.nth -/
def nthV (m n : Nat) : Nat := if handTo m 64 = [] then 255 else (handTo m 64).getD (n % (handTo m 64).length) 0
theorem nthV_nil (n : Nat) : nthV 0 n = 255 := by
  unfold nthV
  rw [if_pos]
  apply List.eq_nil_iff_forall_not_mem.2
  intro c hc
  have := ((handTo_mem 0 64 c).1 hc).2
  simp at this
theorem nthV_bit {m : Nat} (hm : W64 m) (h0 : m ≠ 0) (n : Nat) : m.testBit (nthV m n) = true := by
  have hne : handTo m 64 ≠ [] := by
    intro e
    have h1 := ctz_bit m h0 hm
    obtain ⟨_, _, h3⟩ := ctz_spec m h0 hm
    have := (handTo_mem m 64 (Lib.ctz 64 m)).2 ⟨h3, h1.1⟩
    rw [e] at this; cases this
  unfold nthV
  rw [if_neg hne]
  exact ((handTo_mem m 64 _).1 (getD_mem_of_lt (Nat.mod_lt _ (List.length_pos_iff.2 hne)))).2
theorem nthV_lt (m n : Nat) : nthV m n < 256 := by
  unfold nthV
  split
  · decide
  · exact getD_lt (by decide) (fun c hc => Nat.lt_trans ((handTo_mem m 64 c).1 hc).1 (by decide)) _
/-- finesselaw14.does: the state, the error, and the card -/
def doesV (s : St) (a : AcT) : (St × Nat) × Nat :=
  if a.kind % 8 = 4 ∨ a.kind % 8 = 5 then (s.leadV (a.seat % 4) (nthV (s.h (a.seat % 4)) a.card), nthV (s.h (a.seat % 4)) a.card)
  else if a.kind % 8 = 6 then (s.chooseV (2 ^ (a.card % 6)), s.card)
  else if a.kind % 8 = 7 then (s.demandV (a.card % 4) (a.seat % 2 == 0), 255)
  else (s.playV (nthV s.legal a.card), nthV s.legal a.card)

variable {d : Nat → Nat} {n : Nat} {s : St}
theorem put_pend (s : St) (c : Nat) : (s.put c).pend = s.pend := by unfold St.put; split <;> rfl
theorem put_seat (s : St) (c : Nat) : (s.put c).seat = s.seat := by unfold St.put; split <;> rfl
theorem put_card (s : St) (c : Nat) : (s.put c).card = s.card := by unfold St.put; split <;> rfl
theorem SInv.put (hd : Deal4 d n) (h : SInv d n s) (hp : s.pend = false) {c : Nat} (hc : (s.h s.turn).testBit c = true) : SInv d n (s.put c) :=
  { h.toSCore.put hd hc with
    pnd := fun e => by rw [put_pend, hp] at e; cases e
    free := fun _ => by rw [put_seat, put_card]; exact h.free hp }
theorem SInv.play (hd : Deal4 d n) (h : SInv d n s) (c : Nat) : SInv d n (s.playV c).1 := by
  unfold St.playV
  split
  · exact h
  next hp =>
    split
    next hl => exact h.put hd (by simpa using hp) (h.legal_sub hl)
    · exact h
theorem SInv.lead (hd : Deal4 d n) (h : SInv d n s) (seat c : Nat) : SInv d n (s.leadV seat c).1 := by
  unfold St.leadV
  split
  · exact h
  next hp =>
    simp only [Bool.or_eq_true, bne_iff_ne, ne_eq, not_or, Decidable.not_not, Bool.not_eq_true] at hp
    split
    · exact h
    next hq =>
      simp only [not_or, Nat.not_lt, Bool.not_eq_false] at hq
      split
      · exact h.play hd c
      next hr =>
        have ht : s.turn = s.ld := by have := h.ok.ld; unfold St.turn; rw [hp.2]; omega
        refine { h.toSCore.with (s' := { s with seat := seat, card := c, pend := true }) ⟨h.ok.h, h.ok.pn, h.ok.tm, h.ok.dc, h.ok.ld, h.ok.ct, h.ok.cs, by show seat < 4; omega, h.bit52 (by omega) hq.2, h.ok.must, h.ok.nt, h.ok.w⟩ rfl rfl rfl rfl rfl rfl h.pen with pnd := fun _ => ⟨hp.2, hq.2, fun e => hr (by rw [ht]; exact e)⟩, free := fun e => by cases e }
theorem SCore.accept (hd : Deal4 d n) (h : SCore d n s) (h0 : s.ct = 0) (hb : (s.h s.seat).testBit s.card = true) : SCore d n s.accept := by
  have hl := h.led h0 h.ok.seat (nt := 0) (by decide)
  have ht : ({ s with ld := s.seat, nt := 0 } : St).turn = s.seat := by have := h.ok.seat; unfold St.turn; dsimp only; rw [h0]; omega
  exact hl.put hd (by rw [ht]; exact hb)
theorem SCore.act (hd : Deal4 d n) (h : SCore d n s) (h0 : s.ct = 0) (hb : (s.h s.seat).testBit s.card = true) (k : Nat) : SCore d n (s.act k) := by
  have hk := St.act_ok h.ok k
  unfold St.act at hk ⊢
  split
  · exact h.accept hd h0 hb
  · refine h.with hk rfl rfl rfl rfl rfl rfl fun j c hj hc => ?_
    dsimp only at hc
    unfold setH at hc
    split at hc
    next e =>
      subst e
      rw [y_testBit_lor_shl1 _ _ _ (by have := h.ok.card; omega), Bool.or_eq_true] at hc
      rcases hc with hc | hc
      · exact h.pen _ _ hj hc
      · rw [← of_decide_eq_true hc]; exact hb
    next => exact h.pen _ _ hj hc
  · exact h.with hk rfl rfl rfl rfl rfl rfl h.pen
  · exact h.with hk rfl rfl rfl rfl rfl rfl h.pen
  · have h' : SCore d n { s with dc := (s.dc + 2) % 4 } := h.with ⟨h.ok.h, h.ok.pn, h.ok.tm, Nat.mod_lt _ (by decide), h.ok.ld, h.ok.ct, h.ok.cs, h.ok.seat, h.ok.card, h.ok.must, h.ok.nt, h.ok.w⟩ rfl rfl rfl rfl rfl rfl h.pen
    exact h'.accept hd h0 hb
  · exact h
theorem SCore.done (h : SCore d n s) : SInv d n s.done :=
  { h.with (St.done_ok h.ok) rfl rfl rfl rfl rfl rfl h.pen with pnd := fun e => (by cases e), free := fun _ => ⟨rfl, rfl⟩ }
theorem SInv.chooseTo (hd : Deal4 d n) (h : SInv d n s) (hp : s.pend = true) (choice : Nat) : ∀ k, SInv d n (s.chooseTo choice k).1
  | 0 => h
  | k + 1 => by
    unfold St.chooseTo
    split
    · obtain ⟨h0, hb, _⟩ := h.pnd hp
      exact (h.toSCore.act hd h0 hb _).done
    · exact SInv.chooseTo hd h hp choice k
theorem SInv.choose (hd : Deal4 d n) (h : SInv d n s) (choice : Nat) : SInv d n (s.chooseV choice).1 := by
  unfold St.chooseV
  split
  next hp => exact h.chooseTo hd hp choice 6
  · exact h
theorem SInv.demand (h : SInv d n s) (suit : Nat) (req : Bool) : SInv d n (s.demandV suit req).1 := by
  unfold St.demandV
  split
  · exact h
  next hp =>
    split
    · exact h
    next hq =>
      split
      · exact h
      · have h2 : 2 ^ suit < 16 := Nat.pow_lt_pow_right (n := 4) (by decide) (by omega)
        have hpt : (s.ld + 2) % 4 < 4 := Nat.mod_lt _ (by decide)
        refine { h.toSCore.with (s' := { s with pn := setH s.pn ((s.ld + 2) % 4) (landn (s.pn ((s.ld + 2) % 4)) (suitsM (2 ^ suit))), must := if req then 2 ^ suit else s.must, nt := if req then 0 else s.nt ||| 2 ^ suit })
          ⟨h.ok.h, setH_lt h.ok.pn (landn_lt (h.ok.pn _ hpt)), h.ok.tm, h.ok.dc, h.ok.ld, h.ok.ct, h.ok.cs, h.ok.seat, h.ok.card, ?_, ?_, h.ok.w⟩ rfl rfl rfl rfl rfl rfl (fun j c hj hc => ?_) with pnd := fun e => by rw [show s.pend = true from e] at hp; exact absurd rfl hp, free := fun e => h.free e }
        · dsimp only; split
          · exact h2
          · exact h.ok.must
        · dsimp only; split
          · decide
          · exact Nat.or_lt_two_pow (n := 4) h.ok.nt h2
        · dsimp only at hc
          unfold setH at hc
          split at hc
          next e =>
            subst e
            rw [testBit_landn, Bool.and_eq_true] at hc
            exact h.pen _ _ hj hc.1
          · exact h.pen _ _ hj hc
theorem SInv.does (hd : Deal4 d n) (h : SInv d n s) (a : AcT) : SInv d n (doesV s a).1.1 := by
  unfold doesV
  split
  · exact h.lead hd _ _
  · split
    · exact h.choose hd _
    · split
      · exact h.demand _ _
      · exact h.play hd _
theorem SInv.new (hd : Deal4 d n) {tm dc : Nat} (ht : tm ≤ 4) (hc : dc < 4) : SInv d n (St.new d tm dc) where
  ok := ⟨hd.lt, fun _ _ => Nat.zero_lt_succ _, ht, hc, Nat.mod_lt _ (by decide), Nat.zero_lt_succ _, fun _ _ => Nat.zero_lt_succ _, Nat.zero_lt_succ _, Nat.zero_lt_succ _, Nat.zero_lt_succ _, Nat.zero_lt_succ _, fun _ _ => Nat.zero_lt_succ _⟩
  bit := fun _ _ _ h => h
  nums := fun j hj => by
    show pop (d j) + (if (j + 4 - _) % 4 < 0 then 1 else 0) + (0 + 0) = n
    rw [if_neg (Nat.not_lt_zero _), hd.pop j hj]; rfl
  gone := fun i hi => absurd hi (Nat.not_lt_zero _)
  nd := List.nodup_nil
  pen := fun j c _ hc => by rw [show (St.new d tm dc).pn j = 0 from rfl, Nat.zero_testBit] at hc; cases hc
  opn := fun _ _ _ => rfl
  pnd := fun e => by cases e
  free := fun _ => ⟨rfl, rfl⟩
theorem St.same_eq {s t : St} (h : s.same t = true) : (∀ j, j < 4 → s.h j = t.h j) ∧ s.w 0 = t.w 0 ∧ s.w 1 = t.w 1 ∧ s.ct = t.ct := by
  unfold St.same at h
  simp only [Bool.and_eq_true, beq_iff_eq] at h
  obtain ⟨⟨⟨⟨h0, h1⟩, h2⟩, h3⟩, _, _, _, _, hc, _, _, _, _, _, _, _, w0, w1⟩ := h
  refine ⟨fun j hj => ?_, w0, w1, hc⟩
  rcases (show j = 0 ∨ j = 1 ∨ j = 2 ∨ j = 3 by omega) with rfl | rfl | rfl | rfl <;> assumption
theorem SCore.md (hd : Deal4 d n) (h : SCore d n s) : s.md := by
  show s.same St.zero = false
  cases e : s.same St.zero
  · rfl
  · obtain ⟨h1, h2, h3, h4⟩ := St.same_eq e
    have hn := h.turn_pop
    rw [h1 _ s.turn_lt, show St.zero.h s.turn = 0 from rfl, pop_nil, h2, h3, show St.zero.w 0 = 0 from rfl, show St.zero.w 1 = 0 from rfl] at hn
    have := hd.pos
    omega
theorem SCore.legal52 (h : SCore d n s) {c : Nat} (hc : s.legal.testBit c = true) : c < 52 := h.bit52 s.turn_lt (h.legal_sub hc)
end Go.Proofs.YtgnlmodaekfhfaaDoor
