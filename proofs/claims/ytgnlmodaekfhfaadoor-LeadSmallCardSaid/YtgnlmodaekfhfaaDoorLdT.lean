/- finesselaw14.mask, Example, nth, count over this seat's program. -/
import Derived.Test.YtgnlmodaekfhfaaDoorLdQ
import Derived.Test.YtgnlmodaekfhfaaDoorLdV
import Derived.LoopN
namespace Go.Proofs.YtgnlmodaekfhfaaDoor
open Go.RowKit Go.Shelf Go.Sort

/-- the mask of cards -/
def maskTo (zs : List Nat) : Nat → Nat
  | 0 => 0
  | k + 1 => lor (maskTo zs k) (shl1 (zs.getD k 0))
theorem maskTo_w64 (zs : List Nat) : ∀ k, W64 (maskTo zs k)
  | 0 => W64.zero
  | k + 1 => (maskTo_w64 zs k).lor (W64.shl1 _)
def maskV (zs : List Nat) : Nat := maskTo zs zs.length
theorem law_mask (a : Option Addr) (len cap : Nat) (zs : List Nat) (w : World) (hz : Byt w a len zs) :
    Calls Tryd.prog 27 #[.slice a len cap] w fun e w' => e = .returned (.int .u64 (maskV zs : Int)) ∧ w = w' := by
  have HL := Lib.hid hz.length
  have hsm := hz.small
  go_enter Tryd.func27, Tryd.ntmps27
  go_wp2
  go_loop [3, 5, 8] (fun m _ i => ∃ k : Nat, k ≤ len ∧ i = .int .i64 (k : Int) ∧ m = .int .u64 (maskTo zs k : Int)) (fun _ _ i => len - (intOf i).toNat)
  case atStart => exact ⟨0, by omega, rfl, rfl⟩
  case round =>
    obtain ⟨k, hk, rfl, rfl⟩ := hrel
    by_cases hlt : k < len
    · obtain ⟨b, off, rfl, hb, hcs⟩ := hz.at (by omega)
      have hc := hcs k hlt
      have hw := maskTo_w64 zs k
      have hs : Hid (maskTo zs (k + 1) = lor (maskTo zs k) (shl1 (zs.getD k 0))) := rfl
      clear hcs
      generalize zs.getD k 0 = c at *
      generalize maskTo zs k = m at *
      go_wp2
      go_round
      case rel => exact ⟨k + 1, by omega, by go_num, by rw [hs.out]⟩
      case measure => simp [intOf]; omega
    · obtain rfl : k = len := by omega
      go_wp2
      go_ret
      exact ⟨by unfold maskV; rw [HL.out]; rfl, rfl⟩
/-- a list of literals in a new block -/
theorem byt_new (w : World) (zs : List Nat) (hz : ∀ c ∈ zs, c < 256) (hl : zs.length ≤ 100) (h0 : 0 < zs.length) : Byt (w.alloc (.cells (zs.map fun z : Nat => Value.int .u8 (z : Int)).toArray 5)) (some ⟨w.heap.size, 0, none⟩) zs.length zs :=
  ⟨rfl, by omega, getD_lt (by decide) hz, .inr ⟨w.heap.size, 0, rfl, by simp, fun i hi => by
    simp only [World.cell?, World.alloc_heap_new]
    simp [List.getElem?_eq_getElem hi, List.getD_eq_getElem?_getD]⟩⟩
theorem byt_two (w : World) (a b : Nat) (ha : a < 256) (hb : b < 256) : Byt (w.alloc (.cells #[.int .u8 (a : Int), .int .u8 (b : Int)] 5)) (some ⟨w.heap.size, 0, none⟩) 2 [a, b] :=
  byt_new w [a, b] (by simp [ha, hb]) (by simp) (by simp)
/-- finesselaw14.count -/
theorem law_count (m : Nat) (hm : W64 m) (w : World) :
    Calls Tryd.prog 21 #[.int .u64 (m : Int)] w fun e w' => e = .returned (.int .i64 (pop m : Int)) ∧ w = w' := by
  have HC := Lib.hid (fun k => cnt_le m k)
  have HP : Hid (pop m = cnt m 64) := rfl
  go_enter Tryd.func21, Tryd.ntmps21
  go_wp2
  go_loop [3, 4, 5] (fun x _ i => ∃ k : Nat, k ≤ 64 ∧ i = .int .i64 (k : Int) ∧ x = .int .i64 (cnt m k : Int)) (fun _ _ i => 64 - (intOf i).toNat)
  case atStart => exact ⟨0, by omega, rfl, rfl⟩
  case round =>
    obtain ⟨k, hk, rfl, rfl⟩ := hrel
    by_cases hlt : k < 64
    · have hs : Hid (cnt m (k + 1) = cnt m k + bitAt m k) := Lib.hid (by rw [bitAt_eq]; rfl)
      have hle := HC.out k
      have hb2 : bitAt m k < 2 := Nat.mod_lt _ (by decide)
      generalize cnt m k = c at *
      go_wp2
      go_round
      case rel => exact ⟨k + 1, by omega, by go_num, by rw [hs.out]; go_num⟩
      case measure => simp [intOf]; omega
    · obtain rfl : k = 64 := by omega
      go_wp2
      go_ret
      exact ⟨by rw [HP.out]; rfl, rfl⟩
set_option maxHeartbeats 1000000 in
theorem law_nth (m n : Nat) (hm : W64 m) (hn : n < 256) (w : World) :
    Calls Tryd.prog 13 #[.int .u64 (m : Int), .int .u8 (n : Int)] w fun e w' => e = .returned (.int .u8 (nthV m n : Int)) ∧ Below w.heap.size w w' := by
  have HV : Hid (nthV m n = if handTo m 64 = [] then 255 else (handTo m 64).getD (n % (handTo m 64).length) 0) := rfl
  go_enter Tryd.func13, Tryd.ntmps13
  go_wp2_with fail
  go_loopw [5, 7] (fun v i wr => ∃ k : Nat, k ≤ 64 ∧ i = .int .u8 (k : Int) ∧ OwnU wr w.heap.size v (handTo m k) ∧ Below w.heap.size w wr) (fun _ i _ => 64 - (intOf i).toNat)
  case atStart => exact ⟨0, by omega, rfl, Owns.nil encU_len _ _, Below.refl _ _⟩
  case round =>
    obtain ⟨k, hk, rfl, how, hB⟩ := hrel
    by_cases hlt : k < 64
    · obtain ⟨av, cv, rfl, -⟩ := how.slice
      have hsz2 := hB.size
      have hln := handTo_le m k
      have HS : Hid (handTo m (k + 1) = if m.testBit k then handTo m k ++ [k] else handTo m k) := rfl
      generalize handTo m k = L at *
      cases hb : m.testBit k
      · have hb0 := bitAt_one m k
        rw [hb] at hb0
        rw [hb] at HS
        go_wp2_with fail
        go_roundw
        case rel => exact ⟨k + 1, by omega, by go_num, by rw [HS.out]; exact how, hB⟩
        case measure => simp [intOf]; omega
      · have hb0 := bitAt_one m k
        rw [hb] at hb0
        rw [hb] at HS
        go_wp2_with (at_builtin; refine appU rfl _ _ rfl w.heap.size _ L [k] rfl (Owns.alloc how _) ⟨wr.heap.size, 0, none⟩ 1 1 rfl (byt_new1 wr k (by omega)) (by omega) (by rw [World.size_alloc]; omega) ?_; intro v' w10 hown' hB10 _ _)
        go_roundw
        case rel => exact ⟨k + 1, by omega, by go_num, by rw [HS.out]; exact hown', (hB.alloc hsz2 _).trans hB10⟩
        case measure => simp [intOf]; omega
    · obtain rfl : k = 64 := by omega
      have hln := handTo_le m 64
      have hlt2 : ∀ c ∈ handTo m 64, c < 256 := fun c hc => Nat.lt_trans ((handTo_mem m 64 c).1 hc).1 (by decide)
      generalize handTo m 64 = L at *
      obtain ⟨av, cv, rfl, -⟩ := how.slice
      by_cases h0 : L = []
      · rw [if_pos h0] at HV
        have e0 : ((L.length : Int) == 0) = true := by rw [h0]; rfl
        clear h0
        go_wp2_with fail
        go_ret
        exact ⟨by rw [HV.out]; rfl, hB⟩
      · rw [if_neg h0] at HV
        have hpos := List.length_pos_iff.2 h0
        have e0 : ((L.length : Int) == 0) = false := by rw [beq_eq_false_iff_ne]; omega
        have hi : n % L.length < L.length := Nat.mod_lt _ hpos
        obtain ⟨j, hj⟩ : ∃ j, n % L.length = j := ⟨_, rfl⟩
        have hje : (n : Int) % (L.length : Int) = (j : Int) := by rw [← hj]; omega
        have hjt : (n : Int).tmod (L.length : Int) = (j : Int) := by rw [Int.tmod_eq_emod_of_nonneg (by omega)]; exact hje
        rw [hj] at hi HV
        obtain ⟨g, cap, he, -⟩ : ∃ g cap, (Value.slice av L.length cv) = .slice (some ⟨g, 0, none⟩) L.length cap ∧ True := by
          rcases how.form with ⟨h1, h2⟩ | ⟨g, cap, h1, _⟩
          · exact absurd h2 h0
          · exact ⟨g, cap, h1, trivial⟩
        injection he with he1 _ he3
        subst he1 he3
        have hc := (own_at how hi).1
        have HC := Lib.hid hc
        clear h0 hj
        generalize L.getD j 0 = c at *
        go_wp2_with fail
        go_ret
        exact ⟨by rw [HV.out]; rfl, hB⟩
/-- the deal of the examples -/
def exH : Nat → Nat := fun j => if j = 0 then maskV [51, 50] else if j = 1 then maskV [40, 27] else if j = 2 then maskV [26, 0] else maskV [42, 41]
theorem byt_a (w : World) : Byt (w.alloc (.cells #[.int .u8 51, .int .u8 50] 5)) (some ⟨w.heap.size, 0, none⟩) 2 [51, 50] := byt_two w 51 50 (by decide) (by decide)
theorem byt_b (w : World) : Byt (w.alloc (.cells #[.int .u8 40, .int .u8 27] 5)) (some ⟨w.heap.size, 0, none⟩) 2 [40, 27] := byt_two w 40 27 (by decide) (by decide)
theorem byt_c (w : World) : Byt (w.alloc (.cells #[.int .u8 26, .int .u8 0] 5)) (some ⟨w.heap.size, 0, none⟩) 2 [26, 0] := byt_two w 26 0 (by decide) (by decide)
theorem byt_d (w : World) : Byt (w.alloc (.cells #[.int .u8 42, .int .u8 41] 5)) (some ⟨w.heap.size, 0, none⟩) 2 [42, 41] := byt_two w 42 41 (by decide) (by decide)
theorem law_Example (w : World) : Calls Tryd.prog 25 #[] w fun e w' => e = .returned (.agg (arr4 exH)) ∧ Below w.heap.size w w' := by
  have HM := Lib.hid (fun a len cap zs W h => law_mask a len cap zs W h)
  have HX : Hid (arr4 exH = #[.int .u64 (maskV [51, 50] : Int), .int .u64 (maskV [40, 27] : Int), .int .u64 (maskV [26, 0] : Int), .int .u64 (maskV [42, 41] : Int)]) := rfl
  go_enter Tryd.func25, Tryd.ntmps25
  go_wp2_with fail
  have hb1 : Below w.heap.size w (w.alloc (.cells #[.int .u64 0, .int .u64 0, .int .u64 0, .int .u64 0] 29)) := (Below.refl _ _).alloc (Nat.le_refl _) _
  have hR1 : Row (w.alloc (.cells #[.int .u64 0, .int .u64 0, .int .u64 0, .int .u64 0] 29)) w.heap.size 29 #[.int .u64 0, .int .u64 0, .int .u64 0, .int .u64 0] := Row.new _ _ _
  rw [← World.size_alloc w (.cells #[.int .u64 0, .int .u64 0, .int .u64 0, .int .u64 0] 29)]
  generalize w.alloc (.cells #[.int .u64 0, .int .u64 0, .int .u64 0, .int .u64 0] 29) = w1 at *
  refine (HM.out _ 2 2 [51, 50] _ (byt_a w1)).mono ?_
  rintro e w' ⟨rfl, rfl⟩
  have hb2 := hb1.alloc hb1.size (.cells #[.int .u8 51, .int .u8 50] 5)
  have hR2 := hR1.alloc (.cells #[.int .u8 51, .int .u8 50] 5)
  generalize w1.alloc (.cells #[.int .u8 51, .int .u8 50] 5) = w2 at *
  go_wp2_with fail
  refine (HM.out _ 2 2 [40, 27] _ (byt_b w2)).mono ?_
  rintro e w' ⟨rfl, rfl⟩
  have hb3 := hb2.alloc hb2.size (.cells #[.int .u8 40, .int .u8 27] 5)
  have hR3 := hR2.alloc (.cells #[.int .u8 40, .int .u8 27] 5)
  generalize w2.alloc (.cells #[.int .u8 40, .int .u8 27] 5) = w3 at *
  go_wp2_with fail
  refine (HM.out _ 2 2 [26, 0] _ (byt_c w3)).mono ?_
  rintro e w' ⟨rfl, rfl⟩
  have hb4 := hb3.alloc hb3.size (.cells #[.int .u8 26, .int .u8 0] 5)
  have hR4 := hR3.alloc (.cells #[.int .u8 26, .int .u8 0] 5)
  generalize w3.alloc (.cells #[.int .u8 26, .int .u8 0] 5) = w4 at *
  go_wp2_with fail
  refine (HM.out _ 2 2 [42, 41] _ (byt_d w4)).mono ?_
  rintro e w' ⟨rfl, rfl⟩
  have hb5 := hb4.alloc hb4.size (.cells #[.int .u8 42, .int .u8 41] 5)
  have hR5 := hR4.alloc (.cells #[.int .u8 42, .int .u8 41] 5)
  generalize w4.alloc (.cells #[.int .u8 42, .int .u8 41] 5) = w5 at *
  obtain ⟨XA, hXA⟩ : ∃ XA, XA = arr4 exH := ⟨_, rfl⟩
  have HZ : Hid ((Tryd.prog.info? 29).map (·.size) = some XA.size ∧ XA.size = 4 ∧ XA.all (·.oneCell') = true) := Lib.hid (by rw [hXA]; exact ⟨size_deal14, rfl, by simp [arr4, Value.oneCell']⟩)
  have HXA := Lib.hid hXA
  have hXB : #[.int .u64 (maskV [51, 50] : Int), .int .u64 (maskV [40, 27] : Int), .int .u64 (maskV [26, 0] : Int), .int .u64 (maskV [42, 41] : Int)] = XA := hXA.symm
  have HXB := Lib.hid hXB
  clear hXA hXB HX
  go_wp2_with (refine wpList_store_row rfl 29 (.tmp 0) (.tmp 9) rfl w.heap.size XA rfl (by rw [← HXB.out]; rfl) 29 _ hR5 HZ.out.1 (by rw [HZ.out.2.1]; rfl) HZ.out.2.2 ?_)
  refine bodyPost_ret (v := .agg XA) (results_cell1 Tryd.results25 _ _ w.heap.size _ XA (0, 0) _ rfl (setRow_heap _ _ _ _ _ _ hR5) Tryd.underlying29 rfl HZ.out.1) rfl ⟨by rw [HXA.out], below_setRow hb5 (Nat.le_refl _) _⟩
end Go.Proofs.YtgnlmodaekfhfaaDoor
