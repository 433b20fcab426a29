/- The contracts of dealt and New, over this seat's program. -/
import Derived.Test.YtgnlmodaekfhfaaDoorLdQ
import Derived.Test.YtgnlmodaekfhfaaDoorMOnes
namespace Go.Proofs.YtgnlmodaekfhfaaDoor
open Go.RowKit Go.Shelf Go.Sort

/-- the cards of the first seats -/
def allTo (d : Nat → Nat) : Nat → Nat
  | 0 => 0
  | i + 1 => lor (allTo d i) (d i)
/-- hand i of a deal is right beside those before it -/
def handOk (d : Nat → Nat) (i : Nat) : Bool := decide (d i < 4503599627370496) && (land (allTo d i) (d i) == 0) && (pop (d i) == pop (d 0))
/-- dealt -/
def dealtV (d : Nat → Nat) : Bool := (handOk d 0 && handOk d 1 && handOk d 2 && handOk d 3) && decide (0 < pop (d 0))
theorem dealt_no {d : Nat → Nat} {k : Nat} (hk : k < 4) (h : handOk d k = false) : dealtV d = false := by
  unfold dealtV
  rcases (show k = 0 ∨ k = 1 ∨ k = 2 ∨ k = 3 by omega) with rfl | rfl | rfl | rfl <;> simp [h]
theorem dealt_yes {d : Nat → Nat} (h : ∀ i, i < 4 → handOk d i = true) : dealtV d = decide (0 < pop (d 0)) := by
  unfold dealtV; rw [h 0 (by omega), h 1 (by omega), h 2 (by omega), h 3 (by omega)]; rfl
theorem index_deal (d : Nat → Nat) (k : Nat) (hk : k < 4) (w : World) : Sem.run Tryd.prog (Instr.index 29 (.agg #[.int .u64 (d 0 : Int), .int .u64 (d 1 : Int), .int .u64 (d 2 : Int), .int .u64 (d 3 : Int)]) (.int .i64 (k : Int))) w = .ok (.int .u64 (d k : Int)) w := by
  rcases (show k = 0 ∨ k = 1 ∨ k = 2 ∨ k = 3 by omega) with rfl | rfl | rfl | rfl <;> kernel_rfl
theorem allTo_w64 {d : Nat → Nat} (h : ∀ i, W64 (d i)) : ∀ k, W64 (allTo d k)
  | 0 => by unfold allTo; exact W64.of_lt (by decide)
  | k + 1 => by unfold allTo; exact (allTo_w64 h k).lor (h k)
theorem allTo_bit (h : Nat → Nat) : ∀ k c, (allTo h k).testBit c = true ↔ ∃ j, j < k ∧ (h j).testBit c = true
  | 0, c => by simp [allTo]
  | k + 1, c => by
    unfold allTo
    rw [testBit_lor, Bool.or_eq_true, allTo_bit h k c]
    constructor
    · rintro (⟨j, hj, hb⟩ | hb)
      · exact ⟨j, by omega, hb⟩
      · exact ⟨k, by omega, hb⟩
    · rintro ⟨j, hj, hb⟩
      by_cases he : j = k
      · subst he; exact .inr hb
      · exact .inl ⟨j, by omega, hb⟩
set_option maxHeartbeats 1000000 in
theorem ld_dealt (d : Nat → Nat) (hd : ∀ i, W64 (d i)) (w : World) :
    Calls Tryd.prog 28 #[.agg #[.int .u64 (d 0 : Int), .int .u64 (d 1 : Int), .int .u64 (d 2 : Int), .int .u64 (d 3 : Int)]] w fun e w' => e = .returned (.bool (dealtV d)) ∧ Below w.heap.size w w' := by
  have hb0 : ∀ o, Below w.heap.size w (w.alloc o) := fun o => (Below.refl _ _).alloc (Nat.le_refl _) o
  have HO0 := Lib.hid (fun W => bits_ones (d 0) (hd 0) W)
  obtain ⟨n0, hn0⟩ : ∃ n0, n0 = pop (d 0) := ⟨_, rfl⟩
  have hn64 : n0 ≤ 64 := by rw [hn0]; exact cnt_le _ 64
  rw [← hn0] at HO0
  have HN0 := Lib.hid hn0
  clear hn0
  go_enter Tryd.func28, Tryd.ntmps28
  go_wp2_with (go_at_call 39; refine (HO0.out _).mono ?_; rintro e w' ⟨rfl, rfl⟩)
  go_loopw [3, 11] (fun al c wr => ∃ k : Nat, k ≤ 4 ∧ c = .int .i64 (k : Int) ∧ al = .int .u64 (allTo d k : Int) ∧ (∀ i, i < k → handOk d i = true) ∧ Below w.heap.size w wr) (fun _ c _ => 4 - (intOf c).toNat)
  case atStart => exact ⟨0, by omega, rfl, rfl, fun i hi => by omega, hb0 _⟩
  case round =>
    obtain ⟨k, hk, rfl, rfl, hall, hB⟩ := hrel
    by_cases hlt : k < 4
    · have hw := hd k
      have hix := index_deal d k hlt
      have hwa := allTo_w64 hd k
      have HO := Lib.hid (fun W => bits_ones (d k) hw W)
      have HOK := Lib.hid (show handOk d k = (decide (d k < 4503599627370496) && (land (allTo d k) (d k) == 0) && (pop (d k) == n0)) by rw [HN0.out]; rfl)
      have HNE := Lib.hid (dealt_no (d := d) hlt)
      have HA := Lib.hid (show allTo d (k + 1) = lor (allTo d k) (d k) from rfl)
      have HALL := Lib.hid hall
      clear hall
      obtain ⟨x, hx⟩ : ∃ x, d k = x := ⟨_, rfl⟩
      have hpop : pop x ≤ 64 := cnt_le _ 64
      rw [hx] at HO HOK HA hw hix
      have HX := Lib.hid hx
      clear hx
      obtain ⟨m, hm⟩ : ∃ m, pop x = m := ⟨_, rfl⟩
      rw [hm] at HO HOK hpop
      have HM := Lib.hid hm
      clear hm
      obtain ⟨al, hal⟩ : ∃ al, allTo d k = al := ⟨_, rfl⟩
      rw [hal] at hwa HA HOK ⊢
      have HAL := Lib.hid hal
      clear hal
      obtain ⟨b1, hb1⟩ : ∃ b, (!decide (x < 4503599627370496)) = b := ⟨_, rfl⟩
      have e1 : ((x : Int) / 4503599627370496 != 0) = b1 := by
        rw [← hb1, Bool.eq_iff_iff, bne_iff_ne, Bool.not_eq_true', decide_eq_false_iff_not]; omega
      obtain ⟨b2, hb2⟩ : ∃ b, (!(land al x == 0)) = b := ⟨_, rfl⟩
      have e2 : (((land al x : Nat) : Int) != 0) = b2 := by
        rw [← hb2, Bool.eq_iff_iff, bne_iff_ne, Bool.not_eq_true', beq_eq_false_iff_ne]; omega
      obtain ⟨b3, hb3⟩ : ∃ b, (!(m == n0)) = b := ⟨_, rfl⟩
      have e3 : ((m : Int) != (n0 : Int)) = b3 := by
        rw [← hb3, Bool.eq_iff_iff, bne_iff_ne, Bool.not_eq_true', beq_eq_false_iff_ne]; omega
      have HB : Hid (handOk d k = (!b1 && !b2 && !b3)) := Lib.hid (by rw [HOK.out, ← hb1, ← hb2, ← hb3]; simp)
      clear hb1 hb2 hb3
      go_upto_region 6 with fail
      cases b1 <;> cases b2 <;> cases b3
      all_goals
        go_wp2_with (go_at_call 39; refine (HO.out _).mono ?_; rintro e w' ⟨rfl, rfl⟩)
        first
          | (go_ret; exact ⟨by rw [HNE.out HB.out]; rfl, hB⟩)
          | skip
      go_roundw
      case rel => exact ⟨k + 1, by omega, by go_num, by rw [HA.out], fun i hi => by
        rcases (show i < k ∨ i = k by omega) with h | rfl
        · exact HALL.out i h
        · exact HB.out, hB⟩
      case measure => simp [intOf]; omega
    · have HY := Lib.hid (dealt_yes (fun i hi => hall i (by omega)))
      rw [← HN0.out] at HY
      have e1 : decide ((n0 : Int) > 0) = decide (0 < n0) := by rw [decide_eq_decide]; omega
      go_wp2_with fail
      go_ret
      exact ⟨by rw [HY.out]; rfl, hB⟩
/-- whether New makes a table -/
def newOk (d : Nat → Nat) (tm dc : Nat) : Bool := dealtV d && (decide (tm ≤ 4) && decide (dc ≤ 3))
set_option maxHeartbeats 1000000 in
theorem ld_New (d : Nat → Nat) (hd : ∀ i, W64 (d i)) (tm dc : Nat) (htm : tm < 256) (hdc : dc < 256) (w : World) :
    Calls Tryd.prog 14 #[.agg #[.int .u64 (d 0 : Int), .int .u64 (d 1 : Int), .int .u64 (d 2 : Int), .int .u64 (d 3 : Int)], .int .u8 (tm : Int), .int .u8 (dc : Int)] w fun e w' =>
      Below w.heap.size w w' ∧ ((newOk d tm dc = false ∧ e = .returned (.tuple #[.pointer none, .int .i64 140])) ∨
        (newOk d tm dc = true ∧ ∃ B, e = .returned (.tuple #[.pointer (some ⟨B, 0, none⟩), .int .i64 0]) ∧ w.heap.size ≤ B ∧ TblAt w' B (St.new d tm dc))) := by
  have hb0 : ∀ o, Below w.heap.size w (w.alloc o) := fun o => (Below.refl _ _).alloc (Nat.le_refl _) o
  have HD := Lib.hid (fun W => ld_dealt d hd W)
  have HK : Hid (newOk d tm dc = (dealtV d && (decide (tm ≤ 4) && decide (dc ≤ 3)))) := Lib.hid rfl
  obtain ⟨b1, hb1⟩ : ∃ b, dealtV d = b := ⟨_, rfl⟩
  rw [hb1] at HD HK
  obtain ⟨b2, hb2⟩ : ∃ b, decide (4 < tm) = b := ⟨_, rfl⟩
  have e2 : decide ((tm : Int) > 4) = b2 := by rw [← hb2, decide_eq_decide]; omega
  obtain ⟨b3, hb3⟩ : ∃ b, decide (3 < dc) = b := ⟨_, rfl⟩
  have e3 : decide ((dc : Int) > 3) = b3 := by rw [← hb3, decide_eq_decide]; omega
  have HK2 : Hid (newOk d tm dc = (b1 && (!b2 && !b3))) := Lib.hid (by rw [HK.out, ← hb2, ← hb3]; congr 2 <;> (rw [Bool.eq_iff_iff, Bool.not_eq_true', decide_eq_true_eq, decide_eq_false_iff_not]; omega))
  have hdc3 : b3 = false → dc ≤ 3 := by intro h; rw [h] at hb3; have := of_decide_eq_false hb3; omega
  obtain ⟨ld, hld⟩ : ∃ ld, ld = (dc + 1) % 4 := ⟨_, rfl⟩
  have t1 : dc ≤ 3 → IntKind.u8.wrap ((dc : Int) + 1) = (dc : Int) + 1 := fun h => by rw [IntKind.wrap_u8]; omega
  have t2 : ((dc : Int) + 1).tmod 4 = (ld : Int) := by rw [Int.tmod_eq_emod_of_nonneg (by omega)]; omega
  have t3 : IntKind.u8.wrap (ld : Int) = (ld : Int) := by rw [IntKind.wrap_u8]; omega
  have HLD := Lib.hid hld
  clear HK hb1 hb2 hb3 hld
  have hA := hb0 (.cells #[.int .u64 (d 0 : Int), .int .u64 (d 1 : Int), .int .u64 (d 2 : Int), .int .u64 (d 3 : Int)] 29)
  have hRo : Row (w.alloc (.cells #[.int .u64 (d 0 : Int), .int .u64 (d 1 : Int), .int .u64 (d 2 : Int), .int .u64 (d 3 : Int)] 29)) w.heap.size 29 #[.int .u64 (d 0 : Int), .int .u64 (d 1 : Int), .int .u64 (d 2 : Int), .int .u64 (d 3 : Int)] := Row.new _ _ _
  go_enter Tryd.func14, Tryd.ntmps14
  go_wp2_with fail
  refine (HD.out _).mono ?_
  rintro e w1 ⟨rfl, hb1⟩
  have hR1 := hRo.below hRo.lt hb1
  have hB1 := hA.trans (hb1.mono hA.size)
  clear hb1 hRo hA
  have c0 := hR1.cell 0
  have c1 := hR1.cell 1
  have c2 := hR1.cell 2
  have c3 := hR1.cell 3
  simp only [List.getElem?_toArray, List.getElem?_cons_zero, List.getElem?_cons_succ] at c0 c1 c2 c3
  cases b1 <;> cases b2 <;> cases b3
  case true.false.false =>
    have t1' := t1 (hdc3 rfl)
    clear t1 hdc3
    go_wp2_with fail
    go_ret2
    refine ⟨hB1.alloc hB1.size _, .inr ⟨HK2.out, _, rfl, hB1.size, ?_⟩⟩
    rw [HLD.out]
    exact Row.new w1 62 (St.new d tm dc).cells
  all_goals
    clear t1 hdc3
    go_wp2_with fail
    go_ret2
    exact ⟨hB1, .inl ⟨HK2.out, rfl⟩⟩
end Go.Proofs.YtgnlmodaekfhfaaDoor
