/- finesselaw14.LeadSmall over this seat's program. -/
import Derived.Test.YtgnlmodaekfhfaaDoorMLsa
import Derived.Test.YtgnlmodaekfhfaaDoorLfN
import Derived.Test.YtgnlmodaekfhfaaDoorMLdx
import Derived.Laws.Bits64
namespace Go.Proofs.YtgnlmodaekfhfaaDoor
open Go.RowKit Go.Shelf Go.Sort

attribute [-go_sem] run_equalIn_agg run_neq_struct
set_option maxHeartbeats 4000000 in
set_option maxRecDepth 10000 in
theorem law_LeadSmall (w : World) (hT : Tab w) : Calls Tryd.prog 9 #[] w fun e w' => e = .returned (.bool true) ∧ Below w.heap.size w w' := by
  have HT0 := Lib.hid hT
  clear hT
  obtain ⟨EA, hEA⟩ : ∃ E, E = arr4 exH := ⟨_, rfl⟩
  have HEX := Lib.hid (fun W => law_Example W)
  have HDZ : Hid ((Tryd.prog.info? 29).map (·.size) = some EA.size ∧ EA.size = 4 ∧ EA.all (·.oneCell') = true) := Lib.hid (by rw [hEA]; exact ⟨size_deal14, rfl, by simp [arr4, Value.oneCell']⟩)
  have HTL := Lib.hid (fun (W : World) (hb : Below w.heap.size w W) (tm dc : Nat) (h1 : tm < 256) (h2 : dc < 256) al ll cl zs (hz : Acts W al ll zs) => law_tells14 exH exH_w64 tm dc h1 h2 al ll cl zs W hz (HT0.out.below HT0.out.pos hb))
  have hea : #[.int .u64 (exH 0 : Int), .int .u64 (exH 1 : Int), .int .u64 (exH 2 : Int), .int .u64 (exH 3 : Int)] = EA := hEA.symm
  rw [← hEA] at HEX
  rw [hea] at HTL
  have HEA := Lib.hid hEA
  clear hea hEA
  go_enter Tryd.func9, Tryd.ntmps9
  go_wp2_with fail
  refine (HEX.out w).mono ?_
  rintro e w1 ⟨rfl, hb1⟩
  go_upto_region 2 with (refine wpList_store_row rfl 29 (.tmp 1) (.tmp 15) rfl w1.heap.size EA rfl rfl 29 _ (Row.new _ _ _) HDZ.out.1 (by rw [HDZ.out.2.1]; rfl) HDZ.out.2.2 ?_)
  have hB2 := below_setRow (hb1.alloc hb1.size (.cells #[.int .u64 0, .int .u64 0, .int .u64 0, .int .u64 0] 29)) hb1.size EA
  have hD2 : Row ((w1.alloc (.cells #[.int .u64 0, .int .u64 0, .int .u64 0, .int .u64 0] 29)).setRow w1.heap.size EA) w1.heap.size 29 EA := setRow_heap _ _ _ _ _ _ (Row.new _ _ _)
  have HBD : Hid (w.heap.size ≤ w1.heap.size) := Lib.hid hb1.size
  change Code.wp _ _ _ _ ((w1.alloc (.cells #[.int .u64 0, .int .u64 0, .int .u64 0, .int .u64 0] 29)).setRow w1.heap.size EA)
  generalize (w1.alloc (.cells #[.int .u64 0, .int .u64 0, .int .u64 0, .int .u64 0] 29)).setRow w1.heap.size EA = w2 at *
  obtain ⟨bd, hbd⟩ : ∃ b, w1.heap.size = b := ⟨_, rfl⟩
  rw [hbd] at hD2 HBD ⊢
  clear hbd hb1 HEX
  go_wp2_with fail
  go_loopw [16] (fun x wr => ∃ c : Nat, c ≤ 4 ∧ x = .int .u8 (c : Int) ∧ Row wr bd 29 EA ∧ Below w.heap.size w wr) (fun x _ => 4 - (intOf x).toNat)
  case atStart => exact ⟨0, by omega, rfl, hD2, hB2⟩
  case round =>
    clear hD2 hB2
    obtain ⟨dc, hdc, rfl, hd1, hB1⟩ := hrel
    by_cases hlt : dc < 4
    · have hltI : (dc : Int) < 4 := by omega
      have e1 : IntKind.u8.wrap ((dc : Int) + 1) = (dc : Int) + 1 := by rw [IntKind.wrap_u8]; omega
      go_wp2_with fail
      go_loopw [19] (fun x wr => ∃ c : Nat, c ≤ 5 ∧ x = .int .u8 (c : Int) ∧ Row wr bd 29 EA ∧ Below w.heap.size w wr) (fun x _ => 5 - (intOf x).toNat)
      case atStart => exact ⟨0, by omega, rfl, hd1, hB1⟩
      case round =>
        clear hd1 hB1
        obtain ⟨seat, hse, rfl, hd1, hB1⟩ := hrel
        by_cases hsl : seat < 5
        · have hslI : (seat : Int) < 5 := by omega
          have e2 : IntKind.u8.wrap ((seat : Int) + 1) = (seat : Int) + 1 := by rw [IntKind.wrap_u8]; omega
          go_wp2_with fail
          go_loopw [22] (fun x wr => ∃ c : Nat, c ≤ 2 ∧ x = .int .u8 (c : Int) ∧ Row wr bd 29 EA ∧ Below w.heap.size w wr) (fun x _ => 2 - (intOf x).toNat)
          case atStart => exact ⟨0, by omega, rfl, hd1, hB1⟩
          case round =>
            clear hd1 hB1
            obtain ⟨card, hca, rfl, hd1, hB1⟩ := hrel
            by_cases hcl : card < 2
            · have hclI : (card : Int) < 2 := by omega
              have e3 : IntKind.u8.wrap ((card : Int) + 1) = (card : Int) + 1 := by rw [IntKind.wrap_u8]; omega
              go_wp2_with fail
              go_loopw [5] (fun x wr => ∃ c : Nat, c ≤ 8 ∧ x = .int .u8 (c : Int) ∧ Row wr bd 29 EA ∧ Below w.heap.size w wr) (fun x _ => 8 - (intOf x).toNat)
              case atStart => exact ⟨0, by omega, rfl, hd1, hB1⟩
              case round =>
                clear hd1 hB1
                obtain ⟨bit, hbi, rfl, hd1, hB1⟩ := hrel
                by_cases hbl : bit < 8
                · have hblI : (bit : Int) ≤ 7 := by omega
                  have e4 : IntKind.u8.wrap ((bit : Int) + 1) = (bit : Int) + 1 := by rw [IntKind.wrap_u8]; omega
                  go_wp2_with fail
                  go_loopw [6] (fun x wr => ∃ n : Nat, n ≤ 8 ∧ x = .int .i64 (n : Int) ∧ Row wr bd 29 EA ∧ Below w.heap.size w wr) (fun x _ => 8 - (intOf x).toNat)
                  case atStart => exact ⟨0, by omega, rfl, hd1, hB1⟩
                  case round =>
                    clear hd1 hB1
                    obtain ⟨n, hn, rfl, hd1, hB1⟩ := hrel
                    by_cases hnl : n < 8
                    · have hnlI : (n : Int) < 8 := by omega
                      obtain ⟨x, hx⟩ : ∃ x, x = 2 ^ bit := ⟨_, rfl⟩
                      have x8 : x < 256 := by rw [hx]; exact Nat.pow_lt_pow_right (a := 2) (n := 8) (by decide) hbl
                      have x1 := pow_u8 hx hbl
                      have x1w : IntKind.u8.wrap ((2 : Int) ^ bit) = (x : Int) := by rw [IntKind.wrap_u8]; exact x1
                      obtain ⟨y, hy⟩ : ∃ y, y = x / 2 := ⟨_, rfl⟩
                      have y1 : (x : Int) / 2 = (y : Int) := by omega
                      have y1w : IntKind.u8.wrap (y : Int) = (y : Int) := by rw [IntKind.wrap_u8]; omega
                      have nw : IntKind.u8.wrap (n : Int) = (n : Int) := by rw [IntKind.wrap_u8]; omega
                      obtain ⟨n2, hn2⟩ : ∃ x, x = n / 2 := ⟨_, rfl⟩
                      have n2a : (n : Int).tdiv 2 = (n2 : Int) := by rw [Int.tdiv_eq_ediv_of_nonneg (by omega)]; omega
                      have n2w : IntKind.u8.wrap (n2 : Int) = (n2 : Int) := by rw [IntKind.wrap_u8]; omega
                      obtain ⟨r2, hr2⟩ : ∃ x, x = n % 2 := ⟨_, rfl⟩
                      have r2a : (n : Int).tmod 2 = (r2 : Int) := by rw [Int.tmod_eq_emod_of_nonneg (by omega)]; omega
                      have r2w : IntKind.u8.wrap (r2 : Int) = (r2 : Int) := by rw [IntKind.wrap_u8]; omega
                      obtain ⟨r6, hr6⟩ : ∃ x, x = n % 6 := ⟨_, rfl⟩
                      have r6a : (n : Int).tmod 6 = (r6 : Int) := by rw [Int.tmod_eq_emod_of_nonneg (by omega)]; omega
                      have r6w : IntKind.i64.wrap (r6 : Int) = (r6 : Int) := IntWalk.i64_in _ (by omega)
                      obtain ⟨z0, hz0⟩ : ∃ z, z = 2 ^ r6 := ⟨_, rfl⟩
                      have z8 : z0 < 256 := by rw [hz0]; exact Nat.pow_lt_pow_right (a := 2) (n := 8) (by decide) (by omega)
                      have z1 := pow_u8 hz0 (by omega)
                      have z1w : IntKind.u8.wrap ((2 : Int) ^ r6) = (z0 : Int) := by rw [IntKind.wrap_u8]; exact z1
                      have zm : min r6 8 = r6 := by omega
                      obtain ⟨r5, hr5⟩ : ∃ x, x = n % 5 := ⟨_, rfl⟩
                      have HR5 : Hid (IntKind.u8.wrap (n : Int) = (n : Int) ∧ (n : Int).tmod 5 = (r5 : Int) ∧ IntKind.u8.wrap (r5 : Int) = (r5 : Int) ∧ r5 < 5) := Lib.hid ⟨nw, by rw [Int.tmod_eq_emod_of_nonneg (by omega)]; omega, by rw [IntKind.wrap_u8]; omega, by omega⟩
                      have HL0 : Hid (∀ a ∈ ([⟨4, seat, card⟩, ⟨6, 0, y⟩, ⟨7, n, n2⟩, ⟨0, 0, r2⟩, ⟨4, seat + 1, n⟩, ⟨6, 0, z0⟩] : List AcT), a.ok) := Lib.hid (by
                        intro a ha
                        simp only [List.mem_cons, List.not_mem_nil, or_false] at ha
                        rcases ha with rfl | rfl | rfl | rfl | rfl | rfl <;> exact ⟨by dsimp only; omega, by dsimp only; omega, by dsimp only; omega⟩)
                      have HOW := Lib.hid (own_new wr (bd + 1) hd1.lt [⟨4, seat, card⟩, ⟨6, 0, y⟩, ⟨7, n, n2⟩, ⟨0, 0, r2⟩, ⟨4, seat + 1, n⟩, ⟨6, 0, z0⟩] #[.int .u8 4, .int .u8 (seat : Int), .int .u8 (card : Int), .int .u8 6, .int .u8 0, .int .u8 (y : Int), .int .u8 7, .int .u8 (n : Int), .int .u8 (n2 : Int), .int .u8 0, .int .u8 0, .int .u8 (r2 : Int), .int .u8 4, .int .u8 ((seat : Int) + 1), .int .u8 (n : Int), .int .u8 6, .int .u8 0, .int .u8 (z0 : Int)] rfl (by simp))
                      have HD1 := Lib.hid hd1
                      have HB1 := Lib.hid hB1
                      clear hx hy hn2 hr2 hr6 hz0 hr5 hd1 hB1
                      go_upto_region 18 with fail
                      have HD3 := Lib.hid (HD1.out.alloc (.cells #[.int .u8 4, .int .u8 (seat : Int), .int .u8 (card : Int), .int .u8 6, .int .u8 0, .int .u8 (y : Int), .int .u8 7, .int .u8 (n : Int), .int .u8 (n2 : Int), .int .u8 0, .int .u8 0, .int .u8 (r2 : Int), .int .u8 4, .int .u8 ((seat : Int) + 1), .int .u8 (n : Int), .int .u8 6, .int .u8 0, .int .u8 (z0 : Int)] 41))
                      have HB3 := Lib.hid (HB1.out.alloc HB1.out.size (.cells #[.int .u8 4, .int .u8 (seat : Int), .int .u8 (card : Int), .int .u8 6, .int .u8 0, .int .u8 (y : Int), .int .u8 7, .int .u8 (n : Int), .int .u8 (n2 : Int), .int .u8 0, .int .u8 0, .int .u8 (r2 : Int), .int .u8 4, .int .u8 ((seat : Int) + 1), .int .u8 (n : Int), .int .u8 6, .int .u8 0, .int .u8 (z0 : Int)] 41))
                      generalize wr.alloc (.cells #[.int .u8 4, .int .u8 (seat : Int), .int .u8 (card : Int), .int .u8 6, .int .u8 0, .int .u8 (y : Int), .int .u8 7, .int .u8 (n : Int), .int .u8 (n2 : Int), .int .u8 0, .int .u8 0, .int .u8 (r2 : Int), .int .u8 4, .int .u8 ((seat : Int) + 1), .int .u8 (n : Int), .int .u8 6, .int .u8 0, .int .u8 (z0 : Int)] 41) = w3 at *
                      have hL0 := HL0.out
                      have hOW := HOW.out
                      have hL0l : ([⟨4, seat, card⟩, ⟨6, 0, y⟩, ⟨7, n, n2⟩, ⟨0, 0, r2⟩, ⟨4, seat + 1, n⟩, ⟨6, 0, z0⟩] : List AcT).length = 6 := rfl
                      rw [hL0l] at hOW
                      generalize ([⟨4, seat, card⟩, ⟨6, 0, y⟩, ⟨7, n, n2⟩, ⟨0, 0, r2⟩, ⟨4, seat + 1, n⟩, ⟨6, 0, z0⟩] : List AcT) = L0 at *
                      have HOW3 := Lib.hid hOW
                      clear hL0 hOW x1 x1w y1 y1w n2a n2w r2a r2w r6a r6w z1 z1w zm z8 x8 HOW HD1 HB1
                      have HL0L := Lib.hid hL0l
                      clear hL0l nw
                      go_wp2_with fail
                      go_loopw [7, 60] (fun v i wr => ∃ (k : Nat) (l : List AcT), k ≤ 8 ∧ i = .int .i64 (k : Int) ∧ l.length = 6 + 3 * k ∧ (∀ a ∈ l, a.ok) ∧ OwnA wr (bd + 1) v l ∧ Row wr bd 29 EA ∧ Below w.heap.size w wr) (fun _ i _ => 8 - (intOf i).toNat)
                      case atStart => exact ⟨0, L0, by omega, rfl, HL0L.out, HL0.out, HOW3.out, HD3.out, HB3.out⟩
                      case round =>
                        clear HOW3 HD3 HB3 HL0L HL0
                        obtain ⟨k, l, hk, rfl, hll, hlo, how, hd1, hB1⟩ := hrel
                        have HLN := Lib.hid hll
                        have HLO := Lib.hid hlo
                        have HOW := Lib.hid how
                        have HD1 := Lib.hid hd1
                        have HB1 := Lib.hid hB1
                        clear hll hlo how hd1 hB1
                        by_cases hkl : k < 8
                        · have hklI : (k : Int) < 8 := by omega
                          obtain ⟨kq, hkq⟩ : ∃ x, x = k / 4 := ⟨_, rfl⟩
                          obtain ⟨m4, hm4⟩ : ∃ x, x = kq * 4 := ⟨_, rfl⟩
                          obtain ⟨nr, hnr⟩ : ∃ x, x = n % 2 := ⟨_, rfl⟩
                          obtain ⟨p1, hp1⟩ : ∃ x, x = m4 * nr := ⟨_, rfl⟩
                          obtain ⟨p2, hp2⟩ : ∃ x, x = k + n := ⟨_, rfl⟩
                          obtain ⟨k3, hk3⟩ : ∃ x, x = k % 3 := ⟨_, rfl⟩
                          obtain ⟨p3, hp3⟩ : ∃ x, x = n / 2 ^ k3 := ⟨_, rfl⟩
                          obtain ⟨k5, hk5⟩ : ∃ x, x = k % 5 := ⟨_, rfl⟩
                          obtain ⟨k6, hk6⟩ : ∃ x, x = k % 6 := ⟨_, rfl⟩
                          obtain ⟨z, hz⟩ : ∃ x, x = 2 ^ k6 := ⟨_, rfl⟩
                          have hp1l : p1 < 256 := by rw [hp1]; rcases (show nr = 0 ∨ nr = 1 by omega) with h | h <;> rw [h] <;> omega
                          have hp3l : p3 ≤ n := by rw [hp3]; exact Nat.div_le_self _ _
                          have hz8 : z < 256 := by rw [hz]; exact Nat.pow_lt_pow_right (a := 2) (n := 8) (by decide) (by omega)
                          have Q1 := Lib.hid (show (k : Int).tdiv 4 = (kq : Int) by rw [Int.tdiv_eq_ediv_of_nonneg (by omega)]; omega)
                          have Q1W := Lib.hid (show IntKind.i64.wrap (kq : Int) = (kq : Int) from IntWalk.i64_in _ (by omega))
                          have Q2 := Lib.hid (show (kq : Int) * 4 = (m4 : Int) by omega)
                          have Q2W := Lib.hid (show IntKind.i64.wrap (m4 : Int) = (m4 : Int) from IntWalk.i64_in _ (by omega))
                          have Q3 := Lib.hid (show (n : Int).tmod 2 = (nr : Int) by rw [Int.tmod_eq_emod_of_nonneg (by omega)]; omega)
                          have Q3W := Lib.hid (show IntKind.i64.wrap (nr : Int) = (nr : Int) from IntWalk.i64_in _ (by omega))
                          have Q4 := Lib.hid (show (m4 : Int) * (nr : Int) = (p1 : Int) by rw [hp1]; push_cast; rfl)
                          have Q4W := Lib.hid (show IntKind.i64.wrap (p1 : Int) = (p1 : Int) from IntWalk.i64_in _ (by omega))
                          have Q5W := Lib.hid (show IntKind.u8.wrap (p1 : Int) = (p1 : Int) by rw [IntKind.wrap_u8]; omega)
                          have Q6 := Lib.hid (show (k : Int) + (n : Int) = (p2 : Int) by omega)
                          have Q6W := Lib.hid (show IntKind.i64.wrap (p2 : Int) = (p2 : Int) from IntWalk.i64_in _ (by omega))
                          have Q7W := Lib.hid (show IntKind.u8.wrap (p2 : Int) = (p2 : Int) by rw [IntKind.wrap_u8]; omega)
                          have Q8 := Lib.hid (show (k : Int).tmod 3 = (k3 : Int) by rw [Int.tmod_eq_emod_of_nonneg (by omega)]; omega)
                          have Q8W := Lib.hid (show IntKind.i64.wrap (k3 : Int) = (k3 : Int) from IntWalk.i64_in _ (by omega))
                          have HSH := Lib.hid (show (n : Int) / 2 ^ k3 = (p3 : Int) by rw [hp3]; push_cast; rfl)
                          have HSHM := Lib.hid (show min k3 64 = k3 by omega)
                          have Q9W := Lib.hid (show IntKind.u8.wrap (p3 : Int) = (p3 : Int) by rw [IntKind.wrap_u8]; omega)
                          have Q10W := Lib.hid (show IntKind.u8.wrap (k : Int) = (k : Int) by rw [IntKind.wrap_u8]; omega)
                          have Q11 := Lib.hid (show (k : Int).tmod 5 = (k5 : Int) by rw [Int.tmod_eq_emod_of_nonneg (by omega)]; omega)
                          have Q11W := Lib.hid (show IntKind.i64.wrap (k5 : Int) = (k5 : Int) from IntWalk.i64_in _ (by omega))
                          have Q12W := Lib.hid (show IntKind.u8.wrap (k5 : Int) = (k5 : Int) by rw [IntKind.wrap_u8]; omega)
                          have Q13 := Lib.hid (show (k : Int).tmod 6 = (k6 : Int) by rw [Int.tmod_eq_emod_of_nonneg (by omega)]; omega)
                          have Q13W := Lib.hid (show IntKind.i64.wrap (k6 : Int) = (k6 : Int) from IntWalk.i64_in _ (by omega))
                          have Q14 := Lib.hid (pow_u8 hz (by omega))
                          have Q14W := Lib.hid (show IntKind.u8.wrap ((2 : Int) ^ k6) = (z : Int) by rw [IntKind.wrap_u8]; exact Q14.out)
                          have Q14M := Lib.hid (show min k6 8 = k6 by omega)
                          have Q14B := Lib.hid (show (k6 : Int) < 64 by omega)
                          have Q15B := Lib.hid (show (k3 : Int) < 64 by omega)
                          obtain ⟨a1, ha1⟩ : ∃ a : AcT, a = ⟨p1, p2, p3⟩ := ⟨_, rfl⟩
                          obtain ⟨a2, ha2⟩ : ∃ a : AcT, a = ⟨7, k, k5⟩ := ⟨_, rfl⟩
                          obtain ⟨a3, ha3⟩ : ∃ a : AcT, a = ⟨6, 0, z⟩ := ⟨_, rfl⟩
                          have HYS : Hid (#[.int .u8 (p1 : Int), .int .u8 (p2 : Int), .int .u8 (p3 : Int), .int .u8 7, .int .u8 (k : Int), .int .u8 (k5 : Int), .int .u8 6, .int .u8 0, .int .u8 (z : Int)].toList = ([a1, a2, a3] : List AcT).flatMap encA) := Lib.hid (by rw [ha1, ha2, ha3]; rfl)
                          have HAO : Hid (a1.ok ∧ a2.ok ∧ a3.ok) := Lib.hid (by rw [ha1, ha2, ha3]; exact ⟨⟨hp1l, by show p2 < 256; omega, by show p3 < 256; omega⟩, ⟨by show 7 < 256; decide, by show k < 256; omega, by show k5 < 256; omega⟩, ⟨by show 6 < 256; decide, by show 0 < 256; decide, hz8⟩⟩)
                          clear hkq hm4 hnr hp1 hp2 hk3 hp3 hk5 hk6 hz hp1l hp3l hz8 ha1 ha2 ha3
                          obtain ⟨v, hv⟩ : ∃ v, u7 = v := ⟨_, rfl⟩
                          rw [hv] at HOW ⊢
                          clear hv
                          go_upto_region 21 with fail
                          refine wp_region_reliesT (ChF [v, .int .i64 (k : Int), .int .i64 (kq : Int), .int .i64 (m4 : Int), .int .i64 (n : Int), .int .i64 (nr : Int), .int .i64 (p1 : Int), .int .u8 (p1 : Int), .int .i64 (k : Int), .int .i64 (n : Int), .int .i64 (p2 : Int), .int .u8 (p2 : Int), .int .i64 (n : Int), .int .i64 (k : Int), .int .i64 (k3 : Int), .int .i64 (p3 : Int), .int .u8 (p3 : Int), .agg #[.int .u8 (p1 : Int), .int .u8 (p2 : Int), .int .u8 (p3 : Int)], .int .i64 (k : Int), .int .u8 (k : Int), .int .i64 (k : Int), .int .i64 (k5 : Int), .int .u8 (k5 : Int), .agg #[.int .u8 7, .int .u8 (k : Int), .int .u8 (k5 : Int)], .int .i64 (k : Int), .int .i64 (k6 : Int), .int .u8 (z : Int), .agg #[.int .u8 6, .int .u8 0, .int .u8 (z : Int)], undef, undef, undef] [28, 29, 30] [] (LsS w bd EA v l [a1, a2, a3])) (fun _ => true) (by kernel_rfl) (by kernel_rfl) (by kernel_rfl) (by kernel_rfl) (ChF.start ⟨HB1.out.drew, HD1.out.below HD1.out.lt (Below.refl _ _).drew, HOW.out.drew⟩) ?obls ?fini
                          case obls =>
                            refine ⟨⟨?_, ?_⟩, ⟨?_, ?_⟩, ⟨?_, ?_⟩, ⟨?_, ?_⟩, ⟨?_, ?_⟩, ⟨?_, ?_⟩, ⟨?_, ?_⟩, ⟨?_, ?_⟩, ⟨?_, ?_⟩, ⟨?_, ?_⟩, ⟨?_, ?_⟩, ⟨?_, ?_⟩, ⟨?_, ?_⟩, ⟨?_, ?_⟩, ⟨?_, ?_⟩, ⟨?_, ?_⟩, ⟨?_, ?_⟩, ⟨?_, ?_⟩, ⟨?_, ?_⟩, ⟨?_, ?_⟩, ⟨?_, ?_⟩, ⟨?_, ?_⟩, ⟨?_, ?_⟩, ⟨?_, ?_⟩, ⟨?_, ?_⟩, ⟨?_, ?_⟩, ⟨?_, ?_⟩, ⟨?_, ?_⟩, ⟨?_, ?_⟩, ⟨?_, ?_⟩, ⟨?_, ?_⟩, trivial⟩
                            · rfl
                            · rintro ρ f W ⟨vs, us, hX⟩ hfi hw hcl hf
                              have f7 : ρ (.tmp 7) = v := hf.1 7 (by simp [Op.operands])
                              exact ok_value (v := v) (w' := W) (by simp [execOp, f7]) (hX.pure 0 _ (by decide) (by decide) rfl hX.st)
                            · rfl
                            · rintro ρ f W ⟨vs, us, hX⟩ hfi hw hcl hf
                              have f8 : ρ (.tmp 8) = .int .i64 (k : Int) := hf.1 8 (by simp [Op.operands])
                              exact ok_value (v := .int .i64 (k : Int)) (w' := W) (by simp [execOp, f8]) (hX.pure 1 _ (by decide) (by decide) rfl hX.st)
                            · rfl
                            · rintro ρ f W ⟨vs, us, hX⟩ hfi hw hcl hf
                              have f64 : ρ (.tmp 64) = .int .i64 (k : Int) := hX.val 1 _ _ (by decide) (by decide) (hf.1 64 (by simp [Op.operands])) rfl
                              have q1 := Q1.out
                              have q1w := Q1W.out
                              exact ok_value (v := .int .i64 (kq : Int)) (w' := W) (by simp [execOp, f64, hf.2.1, go_sem, q1, q1w]) (hX.pure 2 _ (by decide) (by decide) rfl hX.st)
                            · rfl
                            · rintro ρ f W ⟨vs, us, hX⟩ hfi hw hcl hf
                              have f65 : ρ (.tmp 65) = .int .i64 (kq : Int) := hX.val 2 _ _ (by decide) (by decide) (hf.1 65 (by simp [Op.operands])) rfl
                              have q2 := Q2.out
                              have q2w := Q2W.out
                              exact ok_value (v := .int .i64 (m4 : Int)) (w' := W) (by simp [execOp, f65, hf.2.1, go_sem, q2, q2w]) (hX.pure 3 _ (by decide) (by decide) rfl hX.st)
                            · rfl
                            · rintro ρ f W ⟨vs, us, hX⟩ hfi hw hcl hf
                              have f6 : ρ (.tmp 6) = .int .i64 (n : Int) := hf.1 6 (by simp [Op.operands])
                              exact ok_value (v := .int .i64 (n : Int)) (w' := W) (by simp [execOp, f6]) (hX.pure 4 _ (by decide) (by decide) rfl hX.st)
                            · rfl
                            · rintro ρ f W ⟨vs, us, hX⟩ hfi hw hcl hf
                              have f67 : ρ (.tmp 67) = .int .i64 (n : Int) := hX.val 4 _ _ (by decide) (by decide) (hf.1 67 (by simp [Op.operands])) rfl
                              have q3 := Q3.out
                              exact ok_value (v := .int .i64 (nr : Int)) (w' := W) (by simp [execOp, f67, hf.2.1, go_sem, q3]) (hX.pure 5 _ (by decide) (by decide) rfl hX.st)
                            · rfl
                            · rintro ρ f W ⟨vs, us, hX⟩ hfi hw hcl hf
                              have f66 : ρ (.tmp 66) = .int .i64 (m4 : Int) := hX.val 3 _ _ (by decide) (by decide) (hf.1 66 (by simp [Op.operands])) rfl
                              have f68 : ρ (.tmp 68) = .int .i64 (nr : Int) := hX.val 5 _ _ (by decide) (by decide) (hf.1 68 (by simp [Op.operands])) rfl
                              have q4 := Q4.out
                              have q4w := Q4W.out
                              exact ok_value (v := .int .i64 (p1 : Int)) (w' := W) (by simp [execOp, f66, f68, go_sem, q4, q4w]) (hX.pure 6 _ (by decide) (by decide) rfl hX.st)
                            · rfl
                            · rintro ρ f W ⟨vs, us, hX⟩ hfi hw hcl hf
                              have f69 : ρ (.tmp 69) = .int .i64 (p1 : Int) := hX.val 6 _ _ (by decide) (by decide) (hf.1 69 (by simp [Op.operands])) rfl
                              have q5w := Q5W.out
                              exact ok_value (v := .int .u8 (p1 : Int)) (w' := W) (by simp [execOp, f69, go_sem, q5w]) (hX.pure 7 _ (by decide) (by decide) rfl hX.st)
                            · rfl
                            · rintro ρ f W ⟨vs, us, hX⟩ hfi hw hcl hf
                              have f8 : ρ (.tmp 8) = .int .i64 (k : Int) := hf.1 8 (by simp [Op.operands])
                              exact ok_value (v := .int .i64 (k : Int)) (w' := W) (by simp [execOp, f8]) (hX.pure 8 _ (by decide) (by decide) rfl hX.st)
                            · rfl
                            · rintro ρ f W ⟨vs, us, hX⟩ hfi hw hcl hf
                              have f6 : ρ (.tmp 6) = .int .i64 (n : Int) := hf.1 6 (by simp [Op.operands])
                              exact ok_value (v := .int .i64 (n : Int)) (w' := W) (by simp [execOp, f6]) (hX.pure 9 _ (by decide) (by decide) rfl hX.st)
                            · rfl
                            · rintro ρ f W ⟨vs, us, hX⟩ hfi hw hcl hf
                              have f71 : ρ (.tmp 71) = .int .i64 (k : Int) := hX.val 8 _ _ (by decide) (by decide) (hf.1 71 (by simp [Op.operands])) rfl
                              have f72 : ρ (.tmp 72) = .int .i64 (n : Int) := hX.val 9 _ _ (by decide) (by decide) (hf.1 72 (by simp [Op.operands])) rfl
                              have q6 := Q6.out
                              have q6w := Q6W.out
                              exact ok_value (v := .int .i64 (p2 : Int)) (w' := W) (by simp [execOp, f71, f72, go_sem, q6, q6w]) (hX.pure 10 _ (by decide) (by decide) rfl hX.st)
                            · rfl
                            · rintro ρ f W ⟨vs, us, hX⟩ hfi hw hcl hf
                              have f73 : ρ (.tmp 73) = .int .i64 (p2 : Int) := hX.val 10 _ _ (by decide) (by decide) (hf.1 73 (by simp [Op.operands])) rfl
                              have q7w := Q7W.out
                              exact ok_value (v := .int .u8 (p2 : Int)) (w' := W) (by simp [execOp, f73, go_sem, q7w]) (hX.pure 11 _ (by decide) (by decide) rfl hX.st)
                            · rfl
                            · rintro ρ f W ⟨vs, us, hX⟩ hfi hw hcl hf
                              have f6 : ρ (.tmp 6) = .int .i64 (n : Int) := hf.1 6 (by simp [Op.operands])
                              exact ok_value (v := .int .i64 (n : Int)) (w' := W) (by simp [execOp, f6]) (hX.pure 12 _ (by decide) (by decide) rfl hX.st)
                            · rfl
                            · rintro ρ f W ⟨vs, us, hX⟩ hfi hw hcl hf
                              have f8 : ρ (.tmp 8) = .int .i64 (k : Int) := hf.1 8 (by simp [Op.operands])
                              exact ok_value (v := .int .i64 (k : Int)) (w' := W) (by simp [execOp, f8]) (hX.pure 13 _ (by decide) (by decide) rfl hX.st)
                            · rfl
                            · rintro ρ f W ⟨vs, us, hX⟩ hfi hw hcl hf
                              have f76 : ρ (.tmp 76) = .int .i64 (k : Int) := hX.val 13 _ _ (by decide) (by decide) (hf.1 76 (by simp [Op.operands])) rfl
                              have q8 := Q8.out
                              exact ok_value (v := .int .i64 (k3 : Int)) (w' := W) (by simp [execOp, f76, hf.2.1, go_sem, q8]) (hX.pure 14 _ (by decide) (by decide) rfl hX.st)
                            · rfl
                            · rintro ρ f W ⟨vs, us, hX⟩ hfi hw hcl hf
                              have f75 : ρ (.tmp 75) = .int .i64 (n : Int) := hX.val 12 _ _ (by decide) (by decide) (hf.1 75 (by simp [Op.operands])) rfl
                              have f77 : ρ (.tmp 77) = .int .i64 (k3 : Int) := hX.val 14 _ _ (by decide) (by decide) (hf.1 77 (by simp [Op.operands])) rfl
                              have hsh := HSH.out
                              have hshm := HSHM.out
                              exact ok_value (v := .int .i64 (p3 : Int)) (w' := W) (by simp [execOp, f75, f77, go_sem, hsh]) (hX.pure 15 _ (by decide) (by decide) rfl hX.st)
                            · rfl
                            · rintro ρ f W ⟨vs, us, hX⟩ hfi hw hcl hf
                              have f78 : ρ (.tmp 78) = .int .i64 (p3 : Int) := hX.val 15 _ _ (by decide) (by decide) (hf.1 78 (by simp [Op.operands])) rfl
                              have q9w := Q9W.out
                              exact ok_value (v := .int .u8 (p3 : Int)) (w' := W) (by simp [execOp, f78, go_sem, q9w]) (hX.pure 16 _ (by decide) (by decide) rfl hX.st)
                            · rfl
                            · rintro ρ f W ⟨vs, us, hX⟩ hfi hw hcl hf
                              have f70 : ρ (.tmp 70) = .int .u8 (p1 : Int) := hX.val 7 _ _ (by decide) (by decide) (hf.1 70 (by simp [Op.operands])) rfl
                              have f74 : ρ (.tmp 74) = .int .u8 (p2 : Int) := hX.val 11 _ _ (by decide) (by decide) (hf.1 74 (by simp [Op.operands])) rfl
                              have f79 : ρ (.tmp 79) = .int .u8 (p3 : Int) := hX.val 16 _ _ (by decide) (by decide) (hf.1 79 (by simp [Op.operands])) rfl
                              exact ok_value (v := .agg #[.int .u8 (p1 : Int), .int .u8 (p2 : Int), .int .u8 (p3 : Int)]) (w' := W) (by simp [execOp, f70, f74, f79, go_sem]) (hX.pure 17 _ (by decide) (by decide) rfl hX.st)
                            · rfl
                            · rintro ρ f W ⟨vs, us, hX⟩ hfi hw hcl hf
                              have f8 : ρ (.tmp 8) = .int .i64 (k : Int) := hf.1 8 (by simp [Op.operands])
                              exact ok_value (v := .int .i64 (k : Int)) (w' := W) (by simp [execOp, f8]) (hX.pure 18 _ (by decide) (by decide) rfl hX.st)
                            · rfl
                            · rintro ρ f W ⟨vs, us, hX⟩ hfi hw hcl hf
                              have f81 : ρ (.tmp 81) = .int .i64 (k : Int) := hX.val 18 _ _ (by decide) (by decide) (hf.1 81 (by simp [Op.operands])) rfl
                              have q10w := Q10W.out
                              exact ok_value (v := .int .u8 (k : Int)) (w' := W) (by simp [execOp, f81, go_sem, q10w]) (hX.pure 19 _ (by decide) (by decide) rfl hX.st)
                            · rfl
                            · rintro ρ f W ⟨vs, us, hX⟩ hfi hw hcl hf
                              have f8 : ρ (.tmp 8) = .int .i64 (k : Int) := hf.1 8 (by simp [Op.operands])
                              exact ok_value (v := .int .i64 (k : Int)) (w' := W) (by simp [execOp, f8]) (hX.pure 20 _ (by decide) (by decide) rfl hX.st)
                            · rfl
                            · rintro ρ f W ⟨vs, us, hX⟩ hfi hw hcl hf
                              have f83 : ρ (.tmp 83) = .int .i64 (k : Int) := hX.val 20 _ _ (by decide) (by decide) (hf.1 83 (by simp [Op.operands])) rfl
                              have q11 := Q11.out
                              exact ok_value (v := .int .i64 (k5 : Int)) (w' := W) (by simp [execOp, f83, hf.2.1, go_sem, q11]) (hX.pure 21 _ (by decide) (by decide) rfl hX.st)
                            · rfl
                            · rintro ρ f W ⟨vs, us, hX⟩ hfi hw hcl hf
                              have f84 : ρ (.tmp 84) = .int .i64 (k5 : Int) := hX.val 21 _ _ (by decide) (by decide) (hf.1 84 (by simp [Op.operands])) rfl
                              have q12w := Q12W.out
                              exact ok_value (v := .int .u8 (k5 : Int)) (w' := W) (by simp [execOp, f84, go_sem, q12w]) (hX.pure 22 _ (by decide) (by decide) rfl hX.st)
                            · rfl
                            · rintro ρ f W ⟨vs, us, hX⟩ hfi hw hcl hf
                              have f82 : ρ (.tmp 82) = .int .u8 (k : Int) := hX.val 19 _ _ (by decide) (by decide) (hf.1 82 (by simp [Op.operands])) rfl
                              have f85 : ρ (.tmp 85) = .int .u8 (k5 : Int) := hX.val 22 _ _ (by decide) (by decide) (hf.1 85 (by simp [Op.operands])) rfl
                              exact ok_value (v := .agg #[.int .u8 7, .int .u8 (k : Int), .int .u8 (k5 : Int)]) (w' := W) (by simp [execOp, f82, f85, hf.2.1, go_sem]) (hX.pure 23 _ (by decide) (by decide) rfl hX.st)
                            · rfl
                            · rintro ρ f W ⟨vs, us, hX⟩ hfi hw hcl hf
                              have f8 : ρ (.tmp 8) = .int .i64 (k : Int) := hf.1 8 (by simp [Op.operands])
                              exact ok_value (v := .int .i64 (k : Int)) (w' := W) (by simp [execOp, f8]) (hX.pure 24 _ (by decide) (by decide) rfl hX.st)
                            · rfl
                            · rintro ρ f W ⟨vs, us, hX⟩ hfi hw hcl hf
                              have f87 : ρ (.tmp 87) = .int .i64 (k : Int) := hX.val 24 _ _ (by decide) (by decide) (hf.1 87 (by simp [Op.operands])) rfl
                              have q13 := Q13.out
                              exact ok_value (v := .int .i64 (k6 : Int)) (w' := W) (by simp [execOp, f87, hf.2.1, go_sem, q13]) (hX.pure 25 _ (by decide) (by decide) rfl hX.st)
                            · rfl
                            · rintro ρ f W ⟨vs, us, hX⟩ hfi hw hcl hf
                              have f88 : ρ (.tmp 88) = .int .i64 (k6 : Int) := hX.val 25 _ _ (by decide) (by decide) (hf.1 88 (by simp [Op.operands])) rfl
                              have q14 := Q14.out
                              have q14w := Q14W.out
                              have q14b := Q14B.out
                              have q14m := Q14M.out
                              exact ok_value (v := .int .u8 (z : Int)) (w' := W) (by simp [execOp, f88, hf.2.1, go_sem, q14w]) (hX.pure 26 _ (by decide) (by decide) rfl hX.st)
                            · rfl
                            · rintro ρ f W ⟨vs, us, hX⟩ hfi hw hcl hf
                              have f89 : ρ (.tmp 89) = .int .u8 (z : Int) := hX.val 26 _ _ (by decide) (by decide) (hf.1 89 (by simp [Op.operands])) rfl
                              exact ok_value (v := .agg #[.int .u8 6, .int .u8 0, .int .u8 (z : Int)]) (w' := W) (by simp [execOp, f89, hf.2.1, go_sem]) (hX.pure 27 _ (by decide) (by decide) rfl hX.st)
                            · rfl
                            · rintro ρ f W ⟨vs, us, hX⟩ hfi hw hcl hf
                              have f80 : ρ (.tmp 80) = .agg #[.int .u8 (p1 : Int), .int .u8 (p2 : Int), .int .u8 (p3 : Int)] := hX.val 17 _ _ (by decide) (by decide) (hf.1 80 (by simp [Op.operands])) rfl
                              have f86 : ρ (.tmp 86) = .agg #[.int .u8 7, .int .u8 (k : Int), .int .u8 (k5 : Int)] := hX.val 23 _ _ (by decide) (by decide) (hf.1 86 (by simp [Op.operands])) rfl
                              have f90 : ρ (.tmp 90) = .agg #[.int .u8 6, .int .u8 0, .int .u8 (z : Int)] := hX.val 27 _ _ (by decide) (by decide) (hf.1 90 (by simp [Op.operands])) rfl
                              have hl := hX.le1 0 28 rfl hfi
                              obtain rfl := list0 hl
                              obtain ⟨hbe, hr1, ho1⟩ := hX.st
                              refine ok_value (v := .slice (some ⟨W.heap.size, 0, none⟩) 3 3) (w' := W.alloc (.cells #[.int .u8 (p1 : Int), .int .u8 (p2 : Int), .int .u8 (p3 : Int), .int .u8 7, .int .u8 (k : Int), .int .u8 (k5 : Int), .int .u8 6, .int .u8 0, .int .u8 (z : Int)] 41)) (by simp [execOp, f80, f86, f90, go_sem]) (hX.step1 28 _ rfl (by decide) (by decide) ⟨hbe.alloc hbe.size _, hr1.alloc _, ho1.alloc _, W.heap.size, rfl, by rw [← HYS.out]; exact cells_new W #[.int .u8 (p1 : Int), .int .u8 (p2 : Int), .int .u8 (p3 : Int), .int .u8 7, .int .u8 (k : Int), .int .u8 (k5 : Int), .int .u8 6, .int .u8 0, .int .u8 (z : Int)].toList 41⟩)
                            · rfl
                            · rintro ρ f W ⟨vs, us, hX⟩ hfi hw hcl hf
                              have f63 : ρ (.tmp 63) = v := hX.val 0 _ _ (by decide) (by decide) (hf.1 63 (by simp [Op.operands, Call.operands])) rfl
                              have g91 := hX.get1 0 28 rfl (hf.1 91 (by simp [Op.operands, Call.operands]))
                              have hl := hX.le1 1 29 rfl hfi
                              obtain ⟨x, rfl⟩ : ∃ x, vs = [x] := by
                                have h6 := hw 28 (by decide)
                                obtain ⟨y, hv⟩ := Option.isSome_iff_exists.1 h6
                                exact ⟨y, list1 hl (hX.get1 0 28 rfl hv)⟩
                              obtain ⟨hbe, hr1, ho1, g, rfl, hg⟩ := hX.st
                              have f91 : ρ (.tmp 91) = .slice (some ⟨g, 0, none⟩) 3 3 := (Option.some.inj (show some (Value.slice (some ⟨g, 0, none⟩) 3 3) = some (ρ (.tmp 91)) from g91)).symm
                              refine ok_appA (.tmp 63) (.tmp 91) rfl (bd + 1) v l [a1, a2, a3] f63 ho1 ⟨g, 0, none⟩ 3 3 f91 rfl hg (by have := HLN.out; simp; omega) hr1.lt ?_
                              intro v' w' hov hbv
                              exact hX.step1 29 _ rfl (by decide) (by decide) ⟨hbe.trans (hbv.mono (by have := HBD.out; omega)), hr1.below (Nat.lt_succ_self bd) hbv, hov⟩
                            · rfl
                            · rintro ρ f W ⟨vs, us, hX⟩ hfi hw hcl hf
                              have g92 := hX.get1 1 29 rfl (hf.1 92 (by simp [Op.operands]))
                              have hl := hX.le1 2 30 rfl hfi
                              obtain ⟨x, y, rfl⟩ : ∃ x y, vs = [x, y] := by
                                have h6 := hw 29 (by decide)
                                obtain ⟨y, hv⟩ := Option.isSome_iff_exists.1 h6
                                obtain ⟨x, hx⟩ := list2 hl (hX.get1 1 29 rfl hv)
                                exact ⟨x, y, hx⟩
                              have f92 : ρ (.tmp 92) = y := (Option.some.inj (show some y = some (ρ (.tmp 92)) from g92)).symm
                              exact ok_value (v := y) (w' := W) (by simp [execOp, f92]) (hX.step1 30 _ rfl (by decide) (by decide) ⟨hX.st.1, hX.st.2.1, rfl, hX.st.2.2⟩)
                          case fini =>
                            rintro us w6 hlen ⟨vs, us', hX⟩
                            have hl0 : us.length = 31 := hlen
                            match us, hl0 with
                            | [y0, y1, y2, y3, y4, y5, y6, y7, y8, y9, y10, y11, y12, y13, y14, y15, y16, y17, y18, y19, y20, y21, y22, y23, y24, y25, y26, y27, y28, y29, y30], _ =>
                              have hst := hX.st
                              obtain ⟨z0, z1, hvs⟩ := list3 hX.l1 (hX.get1 2 30 rfl (v := y30) rfl)
                              rw [hvs] at hst
                              obtain ⟨hB6, hD6, rfl, hO6⟩ := hst
                              have HB6 := Lib.hid hB6
                              have HD6 := Lib.hid hD6
                              have HO6 := Lib.hid hO6
                              clear hX hvs hB6 hD6 hO6 hlen
                              simp only [putAll, List.zip_cons_cons, List.zip_nil_right, List.foldl_cons, List.foldl_nil]
                              simp only [Act.put, List.setIfInBounds_toArray, List.set_cons_succ, List.set_cons_zero]
                              go_wp2_with fail
                              go_roundw
                              case rel => exact ⟨k + 1, l ++ [a1, a2, a3], by omega, by go_num, by rw [List.length_append, HLN.out]; simp; omega, by
                                intro a ha
                                rw [List.mem_append] at ha
                                rcases ha with h | h
                                · exact HLO.out a h
                                · simp only [List.mem_cons, List.not_mem_nil, or_false] at h
                                  rcases h with rfl | rfl | rfl
                                  · exact HAO.out.1
                                  · exact HAO.out.2.1
                                  · exact HAO.out.2.2, HO6.out, HD6.out, HB6.out⟩
                              case measure => simp [intOf]; omega
                        · obtain rfl : k = 8 := by omega
                          simp only [show ((8 : Nat) : Int) = 8 from rfl]
                          obtain ⟨av, cv, rfl, hac⟩ := own_acts HOW.out HLO.out (by have := HLN.out; omega)
                          obtain ⟨nw, r5a, r5w, hr5⟩ := HR5.out
                          have HAC := Lib.hid hac
                          have HR5L := Lib.hid hr5
                          clear hac hr5
                          have hd1 := HD1.out
                          go_upto_region 23 with fail
                          go_wp2_with (refine wpList_load_row_h 29 (.tmp 1) rfl rfl bd rfl 29 EA (0, 0) _ hd1 Tryd.underlying29 rfl HDZ.out.1 ?_)
                          refine (HTL.out wr HB1.out r5 dc (by have := HR5L.out; omega) (by omega) _ _ _ _ HAC.out).mono ?_
                          rintro e w7 ⟨rfl, hb7⟩
                          have HD7 := Lib.hid (HD1.out.below HD1.out.lt hb7)
                          have HB7 := Lib.hid (HB1.out.trans (hb7.mono HB1.out.size))
                          clear hb7 hd1 HD1 HB1 HAC r5a r5w
                          go_wp2_with fail
                          go_roundw
                          case rel => exact ⟨n + 1, by omega, by go_num, HD7.out, HB7.out⟩
                          case measure => simp [intOf]; omega
                    · obtain rfl : n = 8 := by omega
                      simp only [show ((8 : Nat) : Int) = 8 from rfl]
                      go_wp2_with fail
                      go_roundw
                      case rel => exact ⟨bit + 1, by omega, by go_num, hd1, hB1⟩
                      case measure => simp [intOf]; omega
                · obtain rfl : bit = 8 := by omega
                  simp only [show ((8 : Nat) : Int) = 8 from rfl]
                  go_wp2_with fail
                  go_roundw
                  case rel => exact ⟨card + 1, by omega, by go_num, hd1, hB1⟩
                  case measure => simp [intOf]; omega
            · obtain rfl : card = 2 := by omega
              simp only [show ((2 : Nat) : Int) = 2 from rfl]
              go_wp2_with fail
              go_roundw
              case rel => exact ⟨seat + 1, by omega, by go_num, hd1, hB1⟩
              case measure => simp [intOf]; omega
        · obtain rfl : seat = 5 := by omega
          simp only [show ((5 : Nat) : Int) = 5 from rfl]
          go_wp2_with fail
          go_roundw
          case rel => exact ⟨dc + 1, by omega, by go_num, hd1, hB1⟩
          case measure => simp [intOf]; omega
    · obtain rfl : dc = 4 := by omega
      simp only [show ((4 : Nat) : Int) = 4 from rfl]
      have HE4 : Hid (∀ r, r < 4 → EA[r]? = some (.int .u64 (exH r : Int))) := Lib.hid (by
        rw [HEA.out]
        intro r hr
        rcases (show r = 0 ∨ r = 1 ∨ r = 2 ∨ r = 3 by omega) with h | h | h | h <;> rw [h] <;> rfl)
      go_wp2_with fail
      go_loopw [9] (fun x wr => ∃ n : Nat, n ≤ 256 ∧ x = .int .i64 (n : Int) ∧ Row wr bd 29 EA ∧ Below w.heap.size w wr) (fun x _ => 256 - (intOf x).toNat)
      case atStart => exact ⟨0, by omega, rfl, hd1, hB1⟩
      case round =>
        clear hd1 hB1
        obtain ⟨n, hn, rfl, hd1, hB1⟩ := hrel
        by_cases hnl : n < 256
        · have hnlI : (n : Int) < 256 := by omega
          have HD1 := Lib.hid hd1
          have HB1 := Lib.hid hB1
          clear hd1 hB1
          go_upto_region 31 with fail
          have hd1 := HD1.out
          go_upto_region 32 with (first
            | refine wpList_load_row_h 29 (.tmp 1) rfl rfl bd rfl 29 EA (0, 0) _ hd1 Tryd.underlying29 rfl HDZ.out.1 ?_
            | refine wpList_store_row rfl 29 (.tmp 10) (.tmp 109) rfl wr.heap.size EA rfl rfl 29 _ (Row.new _ _ _) HDZ.out.1 (by rw [HDZ.out.2.1]; rfl) HDZ.out.2.2 ?_)
          have hx1 : Row ((wr.alloc (.cells #[.int .u64 0, .int .u64 0, .int .u64 0, .int .u64 0] 29)).setRow wr.heap.size EA) wr.heap.size 29 EA := setRow_heap _ _ _ _ _ _ (Row.new _ _ _)
          have hb1 := below_setRow ((Below.refl wr.heap.size wr).alloc (Nat.le_refl _) (.cells #[.int .u64 0, .int .u64 0, .int .u64 0, .int .u64 0] 29)) (Nat.le_refl _) EA
          have HXB : Hid (bd < wr.heap.size ∧ w.heap.size ≤ wr.heap.size) := Lib.hid ⟨HD1.out.lt, HB1.out.size⟩
          have HD2 := Lib.hid (HD1.out.below HD1.out.lt hb1)
          have HB2 := Lib.hid (HB1.out.trans (hb1.mono HB1.out.size))
          change Code.wp _ _ _ _ ((wr.alloc (.cells #[.int .u64 0, .int .u64 0, .int .u64 0, .int .u64 0] 29)).setRow wr.heap.size EA)
          generalize (wr.alloc (.cells #[.int .u64 0, .int .u64 0, .int .u64 0, .int .u64 0] 29)).setRow wr.heap.size EA = w3 at *
          obtain ⟨bx, hbx⟩ : ∃ b, wr.heap.size = b := ⟨_, rfl⟩
          rw [hbx] at hx1 HXB ⊢
          clear hb1 hbx hd1 HD1 HB1
          obtain ⟨r, hr⟩ : ∃ x, x = n % 4 := ⟨_, rfl⟩
          obtain ⟨q, hq⟩ : ∃ x, x = n / 4 := ⟨_, rfl⟩
          have hr4 : r < 4 := by omega
          have hrI : (r : Int) < 4 := by omega
          have q64 : q < 64 := by omega
          have g1 : (n : Int).tmod 4 = (r : Int) := by rw [Int.tmod_eq_emod_of_nonneg (by omega)]; omega
          have g1w : IntKind.i64.wrap (r : Int) = (r : Int) := IntWalk.i64_in _ (by omega)
          have g2 : (n : Int).tdiv 4 = (q : Int) := by rw [Int.tdiv_eq_ediv_of_nonneg (by omega)]; omega
          have g2w : IntKind.i64.wrap (q : Int) = (q : Int) := IntWalk.i64_in _ (by omega)
          have nw : IntKind.u8.wrap (n : Int) = (n : Int) := by rw [IntKind.wrap_u8]; omega
          have q8 : (n : Int).tdiv 4 = (q : Int) := g2
          have q8w : IntKind.u8.wrap (q : Int) = (q : Int) := by rw [IntKind.wrap_u8]; omega
          obtain ⟨a, ha⟩ : ∃ a, a = exH r := ⟨_, rfl⟩
          have ha64 : W64 a := by rw [ha]; exact exH_w64 r
          have cx : w3.cell? ⟨bx, r, none⟩ = some (.int .u64 (a : Int)) := (hx1.cell r).trans (by rw [ha]; exact HE4.out r hr4)
          have rcx := fun dd os => cell_regrown cx dd os
          obtain ⟨v, hv⟩ : ∃ v, v = a ^^^ shl1 q := ⟨_, rfl⟩
          have hxor : bits .xor .u64 (a : Int) ((shl1 q : Nat) : Int) = (v : Int) := by rw [hv]; exact bits_xor_u64_nat _ _ ha64 (W64.shl1 q)
          have hv64 : W64 v := by rw [hv]; exact Nat.xor_lt_two_pow (n := 64) ha64 (W64.shl1 q)
          have HXD : Hid (EA.setIfInBounds r (.int .u64 (v : Int)) = arr4 (setH exH r v)) := Lib.hid (by rw [HEA.out]; exact arr4_set exH r v hr4)
          have HXW : Hid (∀ i, W64 (setH exH r v i)) := Lib.hid (W64.setH exH_w64 r v hv64)
          have HX1 := Lib.hid hx1
          have HN := Lib.hid (show n < 256 ∧ q < 64 by omega)
          clear hr hq ha hv hx1 hv64 ha64
          refine wp_region_below_tail 9 (by kernel_rfl) (by kernel_rfl) ?_
          simp only [List.take_succ_cons, List.take_zero, List.drop_succ_cons, List.drop_zero]
          repeat (quiet_step (fail))
          refine wpQuiet_nil ?_
          rintro _ ⟨z, rfl⟩
          have hb4 := below_regrown w3 z.d z.os
          have cx4 := rcx z.d z.os
          generalize grow (redrawn w3 z.d) z.os = w4 at *
          have hx4 := HX1.out.below HX1.out.lt hb4
          have HD4 := Lib.hid (HD2.out.below HD2.out.lt hb4)
          have HB4 := Lib.hid (HB2.out.trans (hb4.mono HB2.out.size))
          have fx := hx4.frozen r
          have hx5 := hx4.set r (.int .u64 (v : Int))
          rw [HXD.out] at hx5
          have HX5 := Lib.hid hx5
          have HD5 : Hid (Row (w4.setCell ⟨bx, r, none⟩ (.int .u64 (v : Int))) bd 29 EA) := Lib.hid (HD4.out.other (show bd ≠ bx by have := HXB.out; omega))
          have HB5 : Hid (Below w.heap.size w (w4.setCell ⟨bx, r, none⟩ (.int .u64 (v : Int)))) := Lib.hid (HB4.out.setCell (show w.heap.size ≤ bx from HXB.out.2) _)
          clear hb4 rcx cx hx4 hx5 HD2 HB2 HD4 HB4 HX1
          go_upto_region 33 with fail
          clear cx4 fx
          generalize w4.setCell ⟨bx, r, none⟩ (.int .u64 (v : Int)) = w5 at *
          obtain ⟨XA, hXA⟩ : ∃ X, X = arr4 (setH exH r v) := ⟨_, rfl⟩
          have HXZ : Hid ((Tryd.prog.info? 29).map (·.size) = some XA.size) := Lib.hid (by rw [hXA]; exact size_deal14)
          have HTX := Lib.hid (fun (W : World) (hb : Below w.heap.size w W) (tm dc : Nat) (h1 : tm < 256) (h2 : dc < 256) al ll cl zs (hz : Acts W al ll zs) => law_tells14 (setH exH r v) HXW.out tm dc h1 h2 al ll cl zs W hz (HT0.out.below HT0.out.pos hb))
          have hxa : #[.int .u64 (setH exH r v 0 : Int), .int .u64 (setH exH r v 1 : Int), .int .u64 (setH exH r v 2 : Int), .int .u64 (setH exH r v 3 : Int)] = XA := hXA.symm
          rw [hxa] at HTX
          have hx5 := HX5.out
          rw [← hXA] at hx5
          have hd5 := HD5.out
          clear hxa hXA hxor g1 g1w g2 g2w hrI
          go_wp2_with (refine wpList_load_row_h 29 (.tmp 10) rfl rfl bx rfl 29 XA (0, 0) _ hx5 Tryd.underlying29 rfl HXZ.out ?_)
          have HB6 := Lib.hid (HB5.out.alloc HB5.out.size (.cells #[.int .u8 4, .int .u8 1, .int .u8 0, .int .u8 3, .int .u8 0, .int .u8 (n : Int)] 41))
          have HD6 := Lib.hid (hd5.alloc (.cells #[.int .u8 4, .int .u8 1, .int .u8 0, .int .u8 3, .int .u8 0, .int .u8 (n : Int)] 41))
          have hac6 := acts_new w5 [⟨4, 1, 0⟩, ⟨3, 0, n⟩] #[.int .u8 4, .int .u8 1, .int .u8 0, .int .u8 3, .int .u8 0, .int .u8 (n : Int)] rfl (by
            intro a ha
            simp only [List.mem_cons, List.not_mem_nil, or_false] at ha
            rcases ha with rfl | rfl <;> exact ⟨by dsimp only; omega, by dsimp only; omega, by dsimp only; omega⟩) (by simp)
          refine (HTX.out _ HB6.out 4 0 (by decide) (by decide) _ 2 2 _ hac6).mono ?_
          rintro e w7 ⟨rfl, hb7⟩
          have hd7 := HD6.out.below HD6.out.lt hb7
          have HB7 := Lib.hid (HB6.out.trans (hb7.mono HB6.out.size))
          clear hb7 hac6 HB6 HD6 hd5 hx5
          go_wp2_with (refine wpList_load_row_h 29 (.tmp 1) rfl rfl bd rfl 29 EA (0, 0) _ hd7 Tryd.underlying29 rfl HDZ.out.1 ?_)
          have HB8 := Lib.hid (HB7.out.alloc HB7.out.size (.cells #[.int .u8 5, .int .u8 (n : Int), .int .u8 27, .int .u8 6, .int .u8 0, .int .u8 (n : Int), .int .u8 7, .int .u8 1, .int .u8 (n : Int)] 41))
          have HD8 := Lib.hid (hd7.alloc (.cells #[.int .u8 5, .int .u8 (n : Int), .int .u8 27, .int .u8 6, .int .u8 0, .int .u8 (n : Int), .int .u8 7, .int .u8 1, .int .u8 (n : Int)] 41))
          have hac8 := acts_new w7 [⟨5, n, 27⟩, ⟨6, 0, n⟩, ⟨7, 1, n⟩] #[.int .u8 5, .int .u8 (n : Int), .int .u8 27, .int .u8 6, .int .u8 0, .int .u8 (n : Int), .int .u8 7, .int .u8 1, .int .u8 (n : Int)] rfl (by
            intro a ha
            simp only [List.mem_cons, List.not_mem_nil, or_false] at ha
            rcases ha with rfl | rfl | rfl <;> exact ⟨by dsimp only; omega, by dsimp only; omega, by dsimp only; omega⟩) (by simp)
          refine (HTL.out _ HB8.out n q (by omega) (by omega) _ 3 3 _ hac8).mono ?_
          rintro e w9 ⟨rfl, hb9⟩
          have hd9 := HD8.out.below HD8.out.lt hb9
          have HB9 := Lib.hid (HB8.out.trans (hb9.mono HB8.out.size))
          clear hb9 hac8 HB8 HD8 hd7 HB7
          go_wp2_with (refine wpList_load_row_h 29 (.tmp 1) rfl rfl bd rfl 29 EA (0, 0) _ hd9 Tryd.underlying29 rfl HDZ.out.1 ?_)
          have HB10 := Lib.hid (HB9.out.alloc HB9.out.size (.cells #[.int .u8 5, .int .u8 1, .int .u8 (n : Int), .int .u8 6, .int .u8 0, .int .u8 (n : Int), .int .u8 3, .int .u8 0, .int .u8 (n : Int)] 41))
          have HD10 := Lib.hid (hd9.alloc (.cells #[.int .u8 5, .int .u8 1, .int .u8 (n : Int), .int .u8 6, .int .u8 0, .int .u8 (n : Int), .int .u8 3, .int .u8 0, .int .u8 (n : Int)] 41))
          have hac10 := acts_new w9 [⟨5, 1, n⟩, ⟨6, 0, n⟩, ⟨3, 0, n⟩] #[.int .u8 5, .int .u8 1, .int .u8 (n : Int), .int .u8 6, .int .u8 0, .int .u8 (n : Int), .int .u8 3, .int .u8 0, .int .u8 (n : Int)] rfl (by
            intro a ha
            simp only [List.mem_cons, List.not_mem_nil, or_false] at ha
            rcases ha with rfl | rfl | rfl <;> exact ⟨by dsimp only; omega, by dsimp only; omega, by dsimp only; omega⟩) (by simp)
          refine (HTL.out _ HB10.out 4 2 (by decide) (by decide) _ 3 3 _ hac10).mono ?_
          rintro e w11 ⟨rfl, hb11⟩
          have hd11 := HD10.out.below HD10.out.lt hb11
          have hB11 := HB10.out.trans (hb11.mono HB10.out.size)
          clear hb11 hac10 HB10 HD10 hd9 HB9
          go_wp2_with fail
          go_roundw
          case rel => exact ⟨n + 1, by omega, by go_num, hd11, hB11⟩
          case measure => simp [intOf]; omega
        · obtain rfl : n = 256 := by omega
          simp only [show ((256 : Nat) : Int) = 256 from rfl]
          have HBW := Lib.hid hB1
          clear hd1 hB1 HTL HEA HE4 HDZ HBD
          obtain ⟨ZA, hZA⟩ : ∃ Z, Z = St.zero.cells := ⟨_, rfl⟩
          have hnq : ∀ w, Sem.run Tryd.prog (binOp .neq 45 (.agg ZA) (.agg zst)) w = .ok (.bool false) w := fun w => by
            rw [hZA, neq_cells St.zero St.zero (z := zst) rfl, show St.zero.same St.zero = true by decide]; rfl
          have HZA := Lib.hid hZA
          clear hZA
          have hT3 : TblAt ((wr.alloc (.cells zst 62)).alloc (.cells #[.pointer none, .pointer (some ⟨wr.heap.size, 0, none⟩)] 33)) wr.heap.size St.zero := (Row.new wr 62 zst).alloc _
          have hS3 : Row ((wr.alloc (.cells zst 62)).alloc (.cells #[.pointer none, .pointer (some ⟨wr.heap.size, 0, none⟩)] 33)) (wr.heap.size + 1) 33 #[.pointer none, .pointer (some ⟨wr.heap.size, 0, none⟩)] := by
            have := Row.new (wr.alloc (.cells zst 62)) 33 #[.pointer none, .pointer (some ⟨wr.heap.size, 0, none⟩)]
            rwa [World.size_alloc] at this
          have hB3 := (HBW.out.alloc HBW.out.size (.cells zst 62)).alloc (by rw [World.size_alloc]; have := HBW.out.size; omega) (.cells #[.pointer none, .pointer (some ⟨wr.heap.size, 0, none⟩)] 33)
          go_wp2_with fail
          change Code.wp _ _ _ _ ((wr.alloc (.cells zst 62)).alloc (.cells #[.pointer none, .pointer (some ⟨wr.heap.size, 0, none⟩)] 33))
          generalize (wr.alloc (.cells zst 62)).alloc (.cells #[.pointer none, .pointer (some ⟨wr.heap.size, 0, none⟩)] 33) = w3 at *
          obtain ⟨bt, hbt⟩ : ∃ b, wr.heap.size = b := ⟨_, rfl⟩
          rw [hbt] at hT3 hS3 ⊢
          clear hbt HBW
          go_loopw [166] (fun x wr => ∃ n : Nat, n ≤ 2 ∧ x = .int .i64 (n : Int) ∧ TblAt wr bt St.zero ∧ Row wr (bt + 1) 33 #[.pointer none, .pointer (some ⟨bt, 0, none⟩)] ∧ Below w.heap.size w wr) (fun x _ => 2 - (intOf x).toNat)
          case atStart => exact ⟨0, by omega, rfl, hT3, hS3, hB3⟩
          case round =>
            clear hT3 hS3 hB3
            obtain ⟨n, hn, rfl, hT3, hS3, hB3⟩ := hrel
            by_cases hn2 : n < 2
            · have hn2I : (n : Int) < 2 := by omega
              obtain ⟨pv, hpv, hno⟩ : ∃ pv, wr.cell? ⟨bt + 1, n, none⟩ = some pv ∧ NoT wr pv := by
                rcases (show n = 0 ∨ n = 1 by omega) with rfl | rfl
                · exact ⟨_, (hS3.cell 0).trans rfl, .inl rfl⟩
                · exact ⟨_, (hS3.cell 1).trans rfl, .inr ⟨bt, rfl, hT3⟩⟩
              have HNO := Lib.hid hno
              have HT3 := Lib.hid hT3
              have HS3 := Lib.hid hS3
              have HB3 := Lib.hid hB3
              clear hno hT3 hS3 hB3
              go_upto_region 39 with (go_at_call 26; refine (no_Turn HNO.out).mono ?_; rintro e w' ⟨rfl, rfl⟩)
              go_wp2_with (first
            | (go_at_call 16; refine (no_Play 0 HNO.out).mono ?_; rintro e w' ⟨rfl, rfl⟩)
            | (go_at_call 15; refine (no_Lead 9 99 HNO.out).mono ?_; rintro e w' ⟨rfl, rfl⟩)
            | (go_at_call 17; refine (no_Choose 1 HNO.out).mono ?_; rintro e w' ⟨rfl, rfl⟩)
            | (go_at_call 23; refine (no_Demand 0 true HNO.out).mono ?_; rintro e w' ⟨rfl, rfl⟩)
            | (go_at_call 18; refine (no_Legal HNO.out).mono ?_; rintro e w' ⟨rfl, rfl⟩)
            | (go_at_call 22; refine (no_Choices HNO.out).mono ?_; rintro e w' ⟨rfl, rfl⟩)
                | (go_at_call 19; refine (no_State HNO.out HZA.out).mono ?_; rintro e w6 ⟨rfl, hb6⟩))
              go_roundw
              case rel => exact ⟨n + 1, by omega, by go_num, HT3.out.below HT3.out.lt hb6, HS3.out.below HS3.out.lt hb6, HB3.out.trans (hb6.mono HB3.out.size)⟩
              case measure => simp [intOf]; omega
            · obtain rfl : n = 2 := by omega
              simp only [show ((2 : Nat) : Int) = 2 from rfl]
              clear hT3 hS3
              go_wp2_with fail
              refine (law_awake14 _ (HT0.out.below HT0.out.pos hB3)).mono ?_
              rintro e w9 ⟨rfl, hb9⟩
              have hB9 := hB3.trans (hb9.mono hB3.size)
              go_wp2_with fail
              go_ret
              exact ⟨rfl, hB9⟩
end Go.Proofs.YtgnlmodaekfhfaaDoor
