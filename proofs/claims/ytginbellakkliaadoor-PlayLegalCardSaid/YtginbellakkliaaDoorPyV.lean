/- finesselaw12.chosen and card over this seat's program. -/
import Derived.Test.YtginbellakkliaaDoorPyU
namespace Go.Proofs.YtginbellakkliaaDoor
open Go.RowKit Go.Shelf Go.Sort
attribute [local go_sem] Oper.semAt_some

theorem drop1_run {m : Nat} (h0 : m ≠ 0) (h : W64 m) : bits BinOp.and IntKind.u64 (m : Int) (IntKind.u64.wrap ((m : Int) - 1)) = ((drop1 m : Nat) : Int) := by
  have e : IntKind.u64.wrap ((m : Int) - 1) = ((m - 1 : Nat) : Int) := by
    unfold W64 at h; rw [IntKind.wrap_u64]; omega
  rw [e, bits_and_nat m _ h (by unfold W64 at *; omega)]; rfl
/-- the number that chooses -/
def choV (zs : List Nat) (i : Nat) : Nat := if zs.length = 0 then 0 else zs.getD (i % zs.length) 0
theorem law12_chosenV (a : Option Addr) (len cap : Nat) (zs : List Nat) (i : Nat) (w : World) (hz : Byt w a len zs) (hi : i ≤ 4611686018427387904) :
    Calls Tryd.prog 17 #[.slice a len cap, .int .i64 (i : Int)] w fun e w' => e = .returned (.int .u8 (choV zs i : Int)) ∧ w = w' := by
  unfold choV
  rw [hz.length]
  by_cases h0 : len = 0
  · rw [if_pos h0]
    have hl0 : ((len : Int) == 0) = true := by rw [beq_iff_eq]; omega
    go_enter Tryd.func17, Tryd.ntmps17
    go_wp2_with fail
    go_ret
    exact ⟨rfl, rfl⟩
  · rw [if_neg h0]
    obtain ⟨b, off, rfl, hb, hcs⟩ := hz.at (by omega)
    have hk : i % len < len := Nat.mod_lt _ (by omega)
    have hc := hcs (i % len) hk
    have hby := hz.byte (i % len)
    have hkk : (i : Int) % (len : Int) = ((i % len : Nat) : Int) := by omega
    have hl0 : ((len : Int) == 0) = false := by rw [beq_eq_false_iff_ne]; omega
    have hl1 : ((len : Int) = 0) = False := by simp; omega
    clear hcs
    generalize i % len = k at *
    go_enter Tryd.func17, Tryd.ntmps17
    go_wp2_with fail
    go_ret
    exact ⟨rfl, rfl⟩
theorem choV_lt {w : World} {a : Option Addr} {len : Nat} {zs : List Nat} (hz : Byt w a len zs) (i : Nat) : choV zs i < 256 := by
  unfold choV; split
  · decide
  · exact hz.byte _
theorem law12_chosen (a : Option Addr) (len cap : Nat) (zs : List Nat) (i : Nat) (w : World) (hz : Byt w a len zs) (hi : i ≤ 4611686018427387904) :
    Calls Tryd.prog 17 #[.slice a len cap, .int .i64 (i : Int)] w fun e w' => (∃ v : Nat, v < 256 ∧ e = .returned (.int .u8 (v : Int))) ∧ w = w' :=
  (law12_chosenV a len cap zs i w hz hi).mono fun _ _ ⟨he, hw⟩ => ⟨⟨_, choV_lt hz i, he⟩, hw⟩
/-- the k lowest bits taken off -/
def dropK (m : Nat) : Nat → Nat
  | 0 => m
  | k + 1 => drop1 (dropK m k)
/-- the card that a number chooses -/
def pickV (m n : Nat) : Nat := Lib.ctz 64 (dropK m (n % pop m))
theorem dropK_spec {m : Nat} (hm : W64 m) : ∀ k, k < pop m → pop (dropK m k) + k = pop m ∧ (∀ i, (dropK m k).testBit i = true → m.testBit i = true) ∧ W64 (dropK m k)
  | 0, _ => ⟨rfl, fun _ h => h, hm⟩
  | k + 1, h => by
    obtain ⟨h1, h2, h3⟩ := dropK_spec hm k (by omega)
    have h0 : dropK m k ≠ 0 := by intro e; rw [e, pop_nil] at h1; omega
    have := pop_drop1 h0 h3
    refine ⟨by unfold dropK; omega, fun i hi => h2 i ?_, drop1_w64 h3⟩
    unfold dropK at hi
    rw [drop1_bit _ i h0 h3, Bool.and_eq_true] at hi; exact hi.1
theorem pop_pos1 {m : Nat} (hm : W64 m) (h0 : m ≠ 0) : 1 ≤ pop m := by
  rcases Nat.eq_zero_or_pos (pop m) with h | h
  · exact absurd (pop_zero hm h) h0
  · exact h
theorem pickV_spec {m : Nat} (hm : W64 m) (h0 : m ≠ 0) (n : Nat) : pickV m n < 64 ∧ m.testBit (pickV m n) = true := by
  have hp := pop_pos1 hm h0
  obtain ⟨h1, h2, h3⟩ := dropK_spec hm (n % pop m) (Nat.mod_lt _ hp)
  have hx : dropK m (n % pop m) ≠ 0 := by intro e; rw [e, pop_nil] at h1; have := Nat.mod_lt n hp; omega
  unfold pickV
  refine ⟨?_, h2 _ (ctz_bit _ hx h3).1⟩
  obtain ⟨_, _, h⟩ := ctz_spec _ hx h3
  exact h
set_option maxHeartbeats 400000 in
theorem law12_cardV (m n : Nat) (hm : W64 m) (h0 : m ≠ 0) (hn : n < 256) (w : World) (hT : Tab w) :
    Calls Tryd.prog 16 #[.int .u64 (m : Int), .int .u8 (n : Int)] w fun e w' => e = .returned (.int .u8 (pickV m n : Int)) ∧ w = w' := by
  have hp : 1 ≤ pop m := pop_pos1 hm h0
  have HDK := Lib.hid (fun k => dropK_spec hm k)
  unfold pickV
  have hp64 : pop m ≤ 64 := cnt_le m 64
  obtain ⟨K, hK⟩ : ∃ K, K = n % pop m := ⟨_, rfl⟩
  rw [← hK]
  have hKp : K < pop m := by rw [hK]; exact Nat.mod_lt _ hp
  have hKi : (n : Int) % ((pop m : Nat) : Int) = (K : Int) := by rw [hK]; omega
  have hO := Lib.hid (bits_ones m hm w)
  have hpd : decide (((pop m : Nat) : Int) < 1) = false := by rw [decide_eq_false_iff_not]; omega
  have hpd2 : decide ((1 : Int) < ((pop m : Nat) : Int)) = decide (1 < pop m) := by rw [decide_eq_decide]; omega
  obtain ⟨P, hP⟩ : ∃ P, P = pop m := ⟨_, rfl⟩
  rw [← hP] at hO hp hp64 hKp hKi hpd hpd2 HDK
  have HP := Lib.hid hP
  clear hP hK
  go_enter Tryd.func16, Tryd.ntmps16
  go_wp2_with (go_at_call 27; refine hO.out.mono ?_; rintro e w' ⟨rfl, rfl⟩)
  rw [hKi]
  clear hKi hpd hpd2
  go_loopw [0, 11] (fun m' j w2 => ∃ k : Nat, m' = .int .u64 (dropK m k : Int) ∧ j = .int .i64 (k : Int) ∧ k ≤ K ∧ w2 = w) (fun _ j _ => K - (intOf j).toNat)
  case atStart => exact ⟨0, rfl, rfl, by omega, rfl⟩
  case round =>
    obtain ⟨k, rfl, rfl, hk, rfl⟩ := hrel
    obtain ⟨hpx, _, hx⟩ := HDK.out k (by omega)
    have hx0 : dropK m k ≠ 0 := by intro e; rw [e, pop_nil] at hpx; omega
    have HSU := Lib.hid (show drop1 (dropK m k) = dropK m (k + 1) from rfl)
    clear hpx
    by_cases hkK : k < K
    · generalize dropK m k = x at *
      have hdr := drop1_run hx0 hx
      go_wp2_with fail
      go_roundw
      case rel => exact ⟨k + 1, by rw [HSU.out], by go_num, by omega, trivial⟩
      case measure => simp [intOf]; omega
    · have hke : k = K := by omega
      subst hke
      have hz := bits_tz (dropK m k) hx hx0 wr hT
      have hc : Lib.ctz 64 (dropK m k) < 64 := by obtain ⟨_, _, h⟩ := ctz_spec _ hx0 hx; exact h
      obtain ⟨x, hxe⟩ : ∃ x, dropK m k = x := ⟨_, rfl⟩
      rw [hxe] at hz hc hx hx0 ⊢
      obtain ⟨c, hce⟩ : ∃ c, Lib.ctz 64 x = c := ⟨_, rfl⟩
      rw [hce] at hz hc
      have HX := Lib.hid hxe
      have HC := Lib.hid hce
      clear hxe hce
      go_wp2_with (go_at_call 45; refine hz.mono ?_; rintro e w' ⟨rfl, rfl⟩)
      go_ret
      exact ⟨by rw [HX.out, HC.out]; rfl, rfl⟩
theorem law12_card (m n : Nat) (hm : W64 m) (h0 : m ≠ 0) (hn : n < 256) (w : World) (hT : Tab w) :
    Calls Tryd.prog 16 #[.int .u64 (m : Int), .int .u8 (n : Int)] w fun e w' => (∃ c : Nat, c < 64 ∧ m.testBit c = true ∧ e = .returned (.int .u8 (c : Int))) ∧ w = w' :=
  (law12_cardV m n hm h0 hn w hT).mono fun _ _ ⟨he, hw⟩ => ⟨⟨_, (pickV_spec hm h0 n).1, (pickV_spec hm h0 n).2, he⟩, hw⟩
end Go.Proofs.YtginbellakkliaaDoor
