/- finesselaw12.chosen and card over this seat's program. -/
import Derived.Test.YtginbellakkliaaDoorPyU
namespace Go.Proofs.YtginbellakkliaaDoor
open Go.RowKit Go.Shelf Go.Sort
attribute [local go_sem] Oper.semAt_some

theorem drop1_run {m : Nat} (h0 : m ≠ 0) (h : W64 m) : bits BinOp.and IntKind.u64 (m : Int) (IntKind.u64.wrap ((m : Int) - 1)) = ((drop1 m : Nat) : Int) := by
  have e : IntKind.u64.wrap ((m : Int) - 1) = ((m - 1 : Nat) : Int) := by
    unfold W64 at h; rw [IntKind.wrap_u64]; omega
  rw [e, bits_and_nat m _ h (by unfold W64 at *; omega)]; rfl
theorem law12_chosen (a : Option Addr) (len cap : Nat) (zs : List Nat) (i : Nat) (w : World) (hz : Byt w a len zs) (hi : i ≤ 4611686018427387904) :
    Calls Tryd.prog 17 #[.slice a len cap, .int .i64 (i : Int)] w fun e w' => (∃ v : Nat, v < 256 ∧ e = .returned (.int .u8 (v : Int))) ∧ w = w' := by
  by_cases h0 : len = 0
  · subst h0
    go_enter Tryd.func17, Tryd.ntmps17
    go_wp2_with fail
    go_ret
    exact ⟨⟨0, by decide, rfl⟩, rfl⟩
  · obtain ⟨b, off, rfl, hb, hcs⟩ := hz.at (by omega)
    have hk : i % len < len := Nat.mod_lt _ (by omega)
    have hc := hcs (i % len) hk
    have hby := hz.byte (i % len)
    have hkk : (i : Int) % (len : Int) = ((i % len : Nat) : Int) := by omega
    have hl0 : ((len : Int) == 0) = false := by rw [beq_eq_false_iff_ne]; omega
    have hl1 : ((len : Int) = 0) = False := by simp; omega
    clear hcs
    generalize i % len = k at *
    go_enter Tryd.func17, Tryd.ntmps17
    go_wp2_with fail
    go_ret
    exact ⟨⟨_, hby, rfl⟩, rfl⟩
set_option maxHeartbeats 400000 in
theorem law12_card (m n : Nat) (hm : W64 m) (h0 : m ≠ 0) (hn : n < 256) (w : World) (hT : Tab w) :
    Calls Tryd.prog 16 #[.int .u64 (m : Int), .int .u8 (n : Int)] w fun e w' => (∃ c : Nat, c < 64 ∧ m.testBit c = true ∧ e = .returned (.int .u8 (c : Int))) ∧ w = w' := by
  have hp : 1 ≤ pop m := by
    rcases Nat.eq_zero_or_pos (pop m) with h | h
    · exact absurd (pop_zero hm h) h0
    · exact h
  have hp64 : pop m ≤ 64 := cnt_le m 64
  obtain ⟨K, hK⟩ : ∃ K, K = n % pop m := ⟨_, rfl⟩
  have hKp : K < pop m := by rw [hK]; exact Nat.mod_lt _ hp
  have hKi : (n : Int) % ((pop m : Nat) : Int) = (K : Int) := by rw [hK]; omega
  have hO := Lib.hid (bits_ones m hm w)
  have hpd : decide (((pop m : Nat) : Int) < 1) = false := by rw [decide_eq_false_iff_not]; omega
  have hpd2 : decide ((1 : Int) < ((pop m : Nat) : Int)) = decide (1 < pop m) := by rw [decide_eq_decide]; omega
  obtain ⟨P, hP⟩ : ∃ P, P = pop m := ⟨_, rfl⟩
  rw [← hP] at hO hp hp64 hKp hKi hpd hpd2
  have HP := Lib.hid hP
  clear hP hK
  go_enter Tryd.func16, Tryd.ntmps16
  go_wp2_with (go_at_call 27; refine hO.out.mono ?_; rintro e w' ⟨rfl, rfl⟩)
  rw [hKi]
  clear hKi hpd hpd2
  go_loopw [0, 11] (fun m' j w2 => ∃ x k : Nat, m' = .int .u64 (x : Int) ∧ j = .int .i64 (k : Int) ∧ k ≤ K ∧ pop x + k = P ∧ (∀ i, x.testBit i = true → m.testBit i = true) ∧ W64 x ∧ w2 = w) (fun _ j _ => K - (intOf j).toNat)
  case atStart => exact ⟨m, 0, rfl, rfl, by omega, by rw [HP.out, Nat.add_zero], fun i h => h, hm, rfl⟩
  case round =>
    obtain ⟨x, k, rfl, rfl, hk, hpx, hsub, hx, rfl⟩ := hrel
    have hx0 : x ≠ 0 := by rintro rfl; rw [pop_nil] at hpx; omega
    have HS := Lib.hid hsub
    have HPX := Lib.hid hpx
    clear hsub hpx
    by_cases hkK : k < K
    · have hdr := drop1_run hx0 hx
      go_wp2_with fail
      go_roundw
      case rel =>
        refine ⟨drop1 x, k + 1, rfl, by go_num, by omega, ?_, fun i hi => HS.out i ?_, drop1_w64 hx, trivial⟩
        · have := pop_drop1 hx0 hx; have := HPX.out; omega
        · rw [drop1_bit x i hx0 hx, Bool.and_eq_true] at hi; exact hi.1
      case measure => simp [intOf]; omega
    · have hz := bits_tz x hx hx0 wr hT
      have hb := ctz_bit x hx0 hx
      have hc : Lib.ctz 64 x < 64 := by obtain ⟨_, _, h⟩ := ctz_spec x hx0 hx; exact h
      generalize Lib.ctz 64 x = c at *
      have HB := Lib.hid hb.1
      clear hb
      go_wp2_with (go_at_call 45; refine hz.mono ?_; rintro e w' ⟨rfl, rfl⟩)
      go_ret
      exact ⟨⟨c, hc, HS.out c HB.out, rfl⟩, rfl⟩
end Go.Proofs.YtginbellakkliaaDoor
