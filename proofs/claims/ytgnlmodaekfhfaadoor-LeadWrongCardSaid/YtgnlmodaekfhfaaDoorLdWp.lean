/- Plain: deals that finesselaw14.LeadWrong spoils, and cards that a seat does not have. -/
import Derived.Test.YtgnlmodaekfhfaaDoorMLdx
namespace Go.Proofs.YtgnlmodaekfhfaaDoor
open Go.RowKit Go.Shelf Go.Sort

variable {d : Nat → Nat} {n : Nat}
theorem pop_or (a b : Nat) (hd : ∀ c, a.testBit c = true → b.testBit c = false) : pop (lor a b) = pop a + pop b := cnt_or a b hd 64
theorem bad_pop {b : Nat → Nat} {p q : Nat} (hp : p < 4) (hq : q < 4) (h : pop (b p) ≠ pop (b q)) : dealtV b = false := by
  cases hb : dealtV b
  · rfl
  · have := dealt_deal hb
    exact absurd ((this.pop p hp).trans (this.pop q hq).symm) h
theorem bad_empty (hd : Deal4 d n) {p : Nat} (hp : p < 4) : dealtV (setH d p 0) = false := by
  refine bad_pop (p := p) (q := (p + 1) % 4) hp (Nat.mod_lt _ (by decide)) ?_
  unfold setH
  rw [if_pos rfl, if_neg (by omega), pop_nil, hd.pop _ (Nat.mod_lt _ (by decide))]
  have := hd.pos; omega
theorem bad_twice (hd : Deal4 d n) {p : Nat} (hp : p < 4) : dealtV (setH d p (lor (d p) (d ((p + 1) % 4)))) = false := by
  refine bad_pop (p := p) (q := (p + 1) % 4) hp (Nat.mod_lt _ (by decide)) ?_
  unfold setH
  rw [if_pos rfl, if_neg (by omega), pop_or _ _ (fun c hc => hd.apart p _ c hp (Nat.mod_lt _ (by decide)) (by omega) hc), hd.pop _ (Nat.mod_lt _ (by decide)), hd.pop p hp]
  have := hd.pos; omega
theorem bad_long {p c : Nat} (hp : p < 4) (hc : c < 12) : dealtV (setH d p (lor (d p) (shl1 (52 + c)))) = false := by
  cases hb : dealtV (setH d p (lor (d p) (shl1 (52 + c))))
  · rfl
  · have h := (dealt_deal hb).lt p hp
    unfold setH at h
    rw [if_pos rfl] at h
    have hbit : (lor (d p) (shl1 (52 + c))).testBit (52 + c) = true := by rw [testBit_lor, testBit_shl1]; simp; omega
    have := y_bit_lt (n := 52) h hbit
    omega
theorem bad_zero : dealtV (fun _ => 0) = false := by decide +kernel
theorem newOk_no {d : Nat → Nat} {tm dc : Nat} (h : dealtV d = false ∨ 4 < tm ∨ 3 < dc) : newOk d tm dc = false := by
  unfold newOk
  rcases h with h | h | h
  · rw [h]; rfl
  · rw [decide_eq_false (show ¬ tm ≤ 4 by omega)]; simp
  · rw [decide_eq_false (show ¬ dc ≤ 3 by omega)]; simp
theorem ld_New_no {d : Nat → Nat} (hw : ∀ i, W64 (d i)) (tm dc : Nat) (htm : tm < 256) (hdc : dc < 256) (h : newOk d tm dc = false) (w : World) :
    Calls Tryd.prog 14 #[.agg #[.int .u64 (d 0 : Int), .int .u64 (d 1 : Int), .int .u64 (d 2 : Int), .int .u64 (d 3 : Int)], .int .u8 (tm : Int), .int .u8 (dc : Int)] w fun e w' =>
      e = .returned (.tuple #[.pointer none, .int .i64 140]) ∧ Below w.heap.size w w' := by
  refine (ld_New d hw tm dc htm hdc w).mono ?_
  rintro e w' ⟨hb, h'⟩
  rcases h' with ⟨_, rfl⟩ | ⟨h1, _⟩
  · exact ⟨rfl, hb⟩
  · rw [h] at h1; cases h1
theorem no_play {s : St} (hi : SInv d n s) (hp : s.pend = false) {c : Nat} (h : (s.h s.turn).testBit c = false) : s.playV c = (s, 141) := by
  unfold St.playV
  rw [hp, if_neg (by decide), if_neg]
  intro hl
  rw [hi.legal_sub hl] at h; cases h
theorem no_lead {s : St} (hp : s.pend = false) (h0 : s.ct = 0) {seat c : Nat} (h : 3 < seat ∨ (s.h seat).testBit c = false) : s.leadV seat c = (s, 141) := by
  unfold St.leadV
  rw [hp, h0, if_neg (by simp), if_pos h]
end Go.Proofs.YtgnlmodaekfhfaaDoor
