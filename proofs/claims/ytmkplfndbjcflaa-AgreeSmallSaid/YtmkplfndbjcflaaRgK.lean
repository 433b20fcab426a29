/- What the program and the reference answer to Spread, Lengths and Both, side by side. -/
import Derived.Test.YtmkplfndbjcflaaRgI
import Derived.Test.YtmkplfndbjcflaaRgJ
namespace Go.Proofs.Ytmkplfndbjcflaa
open Go.RowKit Go.Sort Go.Shelf Cnt

/-- a slice of ints that reads as f -/
structure Ins (w : World) (a : Option Addr) (len : Nat) (f : Nat → Nat) : Prop where
  small : len ≤ 1000
  cells : len = 0 ∨ ∃ b, a = some ⟨b, 0, none⟩ ∧ b < w.heap.size ∧ ∀ i, i < len → w.cell? ⟨b, i, none⟩ = some (.int .i64 (f i : Int))
theorem Ins.later {w w' : World} {a : Option Addr} {len : Nat} {f : Nat → Nat} (h : Ins w a len f) (hb : Below w.heap.size w w') : Ins w' a len f := by
  refine ⟨h.small, ?_⟩
  rcases h.cells with h | ⟨b, ha, hlt, hc⟩
  · exact .inl h
  · exact .inr ⟨b, ha, Nat.lt_of_lt_of_le hlt hb.size, fun i hi => (hb.cell (p := ⟨b, _, none⟩) hlt).trans (hc i hi)⟩
theorem Ins.none (w : World) (f : Nat → Nat) : Ins w .none 0 f := ⟨by omega, .inl rfl⟩
theorem Ins.row {w : World} {b n : Nat} {T : TypeId} {f : Nat → Nat} (h : Row w b T (tab n f)) (hn : n ≤ 1000) : Ins w (some ⟨b, 0, .none⟩) n f :=
  ⟨hn, .inr ⟨b, rfl, h.lt, fun i hi => (h.cell i).trans (tab_get n f i hi)⟩⟩
theorem kit_sameInts (a b : Option Addr) (len ca cb : Nat) (f : Nat → Nat) (w : World) (ha : Ins w a len f) (hb : Ins w b len f) :
    Calls Try.prog 26 #[.slice a len ca, .slice b len cb] w fun e w' => e = .returned (.bool true) ∧ Below w.heap.size w w' := by
  have HA := Lib.hid ha
  have HB := Lib.hid hb
  have hsm := ha.small
  clear ha hb
  go_enter Try.func26, Try.ntmps26
  go_wp2_with fail
  go_loopw [5] (fun i wr => ∃ (k : Nat), k ≤ len ∧ i = .int .i64 (k : Int) ∧ Below w.heap.size w wr) (fun i _ => len - (intOf i).toNat)
  case atStart => exact ⟨0, by omega, rfl, Below.refl _ _⟩
  case round =>
    obtain ⟨k, hk, rfl, hB⟩ := hrel
    have HBB := Lib.hid hB
    by_cases hlt : k < len
    · have hd : decide ((k : Int) < (len : Int)) = true := by simp; omega
      have hki : (k : Int) < (len : Int) := by omega
      rcases (HA.out.later hB).cells with h0 | ⟨ba, rfl, -, hc⟩
      · omega
      rcases (HB.out.later hB).cells with h0 | ⟨bb, rfl, -, hc'⟩
      · omega
      have c0 := hc k hlt
      have c1 := hc' k hlt
      generalize f k = x at *
      have r0 := fun dd os => cell_regrown c0 dd os
      have r1 := fun dd os => cell_regrown c1 dd os
      have hx : ((x : Int) != (x : Int)) = false := by simp
      clear hc hc' hB
      go_wp2_with fail
      refine wp_region_quiet_below (by kernel_rfl) (by kernel_rfl) ?_
      repeat (first | go_big_quiet_step (fail) | quiet_step (fail))
      refine wpQuiet_nil ?_
      rintro _ ⟨q, rfl⟩
      have HB2 := Lib.hid (HBB.out.trans ((below_regrown wr q.d q.os).mono HBB.out.size))
      generalize grow (redrawn wr q.d) q.os = wa at *
      clear c0 c1 r0 r1
      go_wp2_with fail
      exact ⟨⟨k + 1, by omega, by simp, HB2.out⟩, by simp [intOf]; omega⟩
    · obtain rfl : k = len := by omega
      have hd : decide ((k : Int) < (k : Int)) = false := by simp
      clear hB
      go_wp2_with fail
      go_ret
      exact ⟨rfl, HBB.out⟩
/-- how long the result is, and the error, as what is asked is right or not -/
def resN (n : Nat) (ok : Bool) : Nat := if ok then n else 0
def resE (ok : Bool) : Int := if ok then 0 else 2
def spOk (left : Nat) (n : Int) (ra : List Rg) : Bool := legalB left n && rightV ra
def lnOk (left : Nat) (n : Int) (ra : List Rg) (s : Int) : Bool := legalB left n && rightV ra && (decide (0 ≤ s) && decide (s < 4))
theorem legal_parts {left : Nat} {n : Int} (h : legalB left n = true) : 0 ≤ n ∧ n ≤ 13 ∧ left < 4503599627370496 := by
  simp only [legalB, Bool.and_eq_true, decide_eq_true_eq] at h
  exact ⟨h.1.1, h.1.2, h.2⟩
theorem ag_SpreadV (left : Nat) (n : Int) (a : Option Addr) (la ca : Nat) (ra : List Rg) (w : World) (ha : Rgs w a la ra) :
    Calls Try.prog 23 #[.int .u64 (left : Int), .int .i64 n, .slice a la ca] w fun e w' =>
      (∃ a1 c1, e = .returned (.tuple #[.slice a1 (resN 41 (spOk left n ra)) c1, .int .i64 (resE (spOk left n ra))]) ∧ Ins w' a1 (resN 41 (spOk left n ra)) (spV left n.toNat ra)) ∧ Below w.heap.size w w' := by
  cases h : spOk left n ra
  · refine (ag_Spread_no left n a la ca ra w ha h).mono ?_
    rintro e w' ⟨rfl, hb⟩
    exact ⟨⟨none, 0, rfl, Ins.none _ _⟩, hb⟩
  · obtain ⟨h1, h2⟩ := Bool.and_eq_true_iff.1 h
    obtain ⟨q0, q1, q2⟩ := legal_parts h1
    refine (ag_SpreadOk left n q2 q0 q1 a la ca ra h2 w ha).mono ?_
    rintro e w' ⟨⟨b, rfl, -, hr⟩, hb⟩
    exact ⟨⟨_, 41, rfl, Ins.row hr (by decide)⟩, hb⟩
theorem rf_SpreadV (left : Nat) (n : Int) (a : Option Addr) (la ca : Nat) (ra : List Rg) (w : World) (ha : Rgs w a la ra) :
    Calls Try.prog 24 #[.int .u64 (left : Int), .int .i64 n, .slice a la ca] w fun e w' =>
      (∃ a1 c1, e = .returned (.tuple #[.slice a1 (resN 41 (spOk left n ra)) c1, .int .i64 (resE (spOk left n ra))]) ∧ Ins w' a1 (resN 41 (spOk left n ra)) (spV left n.toNat ra)) ∧ Below w.heap.size w w' := by
  cases h : spOk left n ra
  · refine (rf_Spread_no left n a la ca ra w ha h).mono ?_
    rintro e w' ⟨rfl, hb⟩
    exact ⟨⟨none, 0, rfl, Ins.none _ _⟩, hb⟩
  · obtain ⟨h1, h2⟩ := Bool.and_eq_true_iff.1 h
    obtain ⟨q0, q1, q2⟩ := legal_parts h1
    obtain ⟨nn, rfl⟩ : ∃ nn : Nat, n = (nn : Int) := ⟨n.toNat, by omega⟩
    refine (rf_SpreadOk left nn q2 (by omega) a la ca ra w ha h2).mono ?_
    rintro e w' ⟨⟨b, rfl, -, hr⟩, hb⟩
    exact ⟨⟨_, 41, rfl, Ins.row hr (by decide)⟩, hb⟩
theorem ag_LengthsV (left : Nat) (n : Int) (a : Option Addr) (la ca : Nat) (ra : List Rg) (s : Int) (w : World) (ha : Rgs w a la ra) :
    Calls Try.prog 19 #[.int .u64 (left : Int), .int .i64 n, .slice a la ca, .int .i64 s] w fun e w' =>
      (∃ a1 c1, e = .returned (.tuple #[.slice a1 (resN 14 (lnOk left n ra s)) c1, .int .i64 (resE (lnOk left n ra s))]) ∧ Ins w' a1 (resN 14 (lnOk left n ra s)) (lnV left n.toNat ra s.toNat)) ∧ Below w.heap.size w w' := by
  cases h : lnOk left n ra s
  · refine (ag_Lengths_no left n a la ca ra s w ha h).mono ?_
    rintro e w' ⟨rfl, hb⟩
    exact ⟨⟨none, 0, rfl, Ins.none _ _⟩, hb⟩
  · obtain ⟨h1, h3⟩ := Bool.and_eq_true_iff.1 h
    obtain ⟨h1, h2⟩ := Bool.and_eq_true_iff.1 h1
    obtain ⟨q0, q1, q2⟩ := legal_parts h1
    simp only [Bool.and_eq_true, decide_eq_true_eq] at h3
    obtain ⟨ss, rfl⟩ : ∃ ss : Nat, s = (ss : Int) := ⟨s.toNat, by omega⟩
    refine (ag_LengthsOk left n q2 q0 q1 a la ca ra h2 ss (by omega) w ha).mono ?_
    rintro e w' ⟨⟨b, rfl, -, hr⟩, hb⟩
    exact ⟨⟨_, 14, rfl, Ins.row hr (by decide)⟩, hb⟩
theorem rf_LengthsV (left : Nat) (n : Int) (a : Option Addr) (la ca : Nat) (ra : List Rg) (s : Int) (w : World) (ha : Rgs w a la ra) :
    Calls Try.prog 25 #[.int .u64 (left : Int), .int .i64 n, .slice a la ca, .int .i64 s] w fun e w' =>
      (∃ a1 c1, e = .returned (.tuple #[.slice a1 (resN 14 (lnOk left n ra s)) c1, .int .i64 (resE (lnOk left n ra s))]) ∧ Ins w' a1 (resN 14 (lnOk left n ra s)) (lnV left n.toNat ra s.toNat)) ∧ Below w.heap.size w w' := by
  cases h : lnOk left n ra s
  · refine (rf_Lengths_no left n a la ca ra s w ha h).mono ?_
    rintro e w' ⟨rfl, hb⟩
    exact ⟨⟨none, 0, rfl, Ins.none _ _⟩, hb⟩
  · obtain ⟨h1, h3⟩ := Bool.and_eq_true_iff.1 h
    obtain ⟨h1, h2⟩ := Bool.and_eq_true_iff.1 h1
    obtain ⟨q0, q1, q2⟩ := legal_parts h1
    simp only [Bool.and_eq_true, decide_eq_true_eq] at h3
    obtain ⟨ss, rfl⟩ : ∃ ss : Nat, s = (ss : Int) := ⟨s.toNat, by omega⟩
    obtain ⟨nn, rfl⟩ : ∃ nn : Nat, n = (nn : Int) := ⟨n.toNat, by omega⟩
    refine (rf_LengthsOk left nn q2 (by omega) a la ca ra ss (by omega) w ha h2).mono ?_
    rintro e w' ⟨⟨b, rfl, -, hr⟩, hb⟩
    exact ⟨⟨_, 14, rfl, Ins.row hr (by decide)⟩, hb⟩
/-- what Both answers -/
def bothW (ra rb : List Rg) : List Rg := if rightV ra && rightV rb then (if (bothL ra rb).length ≤ 20 then bothL ra rb else []) else []
def bothE (ra rb : List Rg) : Int := if rightV ra && rightV rb then (if (bothL ra rb).length ≤ 20 then 0 else 5) else 2
theorem bothW_len (ra rb : List Rg) : (bothW ra rb).length ≤ 20 := by
  unfold bothW
  split
  · split
    · assumption
    · exact Nat.zero_le _
  · exact Nat.zero_le _
theorem ag_BothV (a b : Option Addr) (la ca lb cb : Nat) (ra rb : List Rg) (w : World) (ha : Rgs w a la ra) (hb : Rgs w b lb rb) :
    Calls Try.prog 17 #[.slice a la ca, .slice b lb cb] w fun e w' =>
      (∃ a1 c1, e = .returned (.tuple #[.slice a1 (bothW ra rb).length c1, .int .i64 (bothE ra rb)]) ∧ Rgs w' a1 (bothW ra rb).length (bothW ra rb)) ∧ Below w.heap.size w w' := by
  unfold bothW bothE
  cases h : (rightV ra && rightV rb)
  · refine (ag_Both_no a b la ca lb cb ra rb w ha hb h).mono ?_
    rintro e w' ⟨rfl, hb⟩
    exact ⟨⟨none, 0, rfl, Rgs.nil _⟩, hb⟩
  · obtain ⟨h1, h2⟩ := Bool.and_eq_true_iff.1 h
    refine (ag_Both_yes a b la ca lb cb ra rb w ha hb h1 h2).mono ?_
    rintro e w' ⟨h3, hb⟩
    refine ⟨?_, hb⟩
    by_cases h20 : (bothL ra rb).length ≤ 20
    · simp only [if_pos h20] at h3 ⊢
      obtain ⟨v, rfl, hv⟩ := h3
      obtain ⟨ao, cap, rfl, hr, -, -⟩ := hv.rgs (by omega)
      exact ⟨ao, cap, rfl, hr⟩
    · simp only [if_neg h20] at h3 ⊢
      subst h3
      exact ⟨none, 0, rfl, Rgs.nil _⟩
theorem rf_BothV (a b : Option Addr) (la ca lb cb : Nat) (ra rb : List Rg) (w : World) (ha : Rgs w a la ra) (hb : Rgs w b lb rb) :
    Calls Try.prog 21 #[.slice a la ca, .slice b lb cb] w fun e w' =>
      (∃ a1 c1, e = .returned (.tuple #[.slice a1 (bothW ra rb).length c1, .int .i64 (bothE ra rb)]) ∧ Rgs w' a1 (bothW ra rb).length (bothW ra rb)) ∧ Below w.heap.size w w' := by
  unfold bothW bothE
  cases h : (rightV ra && rightV rb)
  · refine (rf_Both_no a b la ca lb cb ra rb w ha hb h).mono ?_
    rintro e w' ⟨rfl, hb⟩
    exact ⟨⟨none, 0, rfl, Rgs.nil _⟩, hb⟩
  · obtain ⟨h1, h2⟩ := Bool.and_eq_true_iff.1 h
    refine (rf_Both_yes a b la ca lb cb ra rb w ha hb h1 h2).mono ?_
    rintro e w' ⟨h3, hb⟩
    refine ⟨?_, hb⟩
    by_cases h20 : (bothL ra rb).length ≤ 20
    · simp only [if_pos h20] at h3 ⊢
      obtain ⟨v, rfl, hv⟩ := h3
      obtain ⟨ao, cap, rfl, hr, -, -⟩ := OwnT.rgs hv (by omega)
      exact ⟨ao, cap, rfl, hr⟩
    · simp only [if_neg h20] at h3 ⊢
      subst h3
      exact ⟨none, 0, rfl, Rgs.nil _⟩
end Go.Proofs.Ytmkplfndbjcflaa
