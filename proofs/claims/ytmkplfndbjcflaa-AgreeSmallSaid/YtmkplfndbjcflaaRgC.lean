/- The reference of chapter 40: holdings. -/
import Derived.Test.YtmkplfndbjcflaaRgB
namespace Go.Proofs.Ytmkplfndbjcflaa
open Go.RowKit Go.Sort Go.Shelf Cnt

/-- how many parts of a list have n members and p points -/
def cn (l : List Nat) (n p : Nat) : Nat := sumS l (fun n' p' => if n' = n ∧ p' = p then 1 else 0)
theorem cn_nil (n p : Nat) : cn [] n p = if n = 0 ∧ p = 0 then 1 else 0 := by
  show (if 0 = n ∧ 0 = p then 1 else 0) = _
  by_cases h : n = 0 ∧ p = 0
  · rw [if_pos h, if_pos ⟨h.1.symm, h.2.symm⟩]
  · rw [if_neg h, if_neg (fun e => h ⟨e.1.symm, e.2.symm⟩)]
theorem cn_snoc (l : List Nat) (x n p : Nat) : cn (l ++ [x]) n p = cn l n p + if 1 ≤ n ∧ x ≤ p then cn l (n - 1) (p - x) else 0 := by
  unfold cn
  rw [sumS_append]
  simp only [sumS, Nat.add_zero, Nat.zero_add]
  rw [sumS_add]
  congr 1
  by_cases h : 1 ≤ n ∧ x ≤ p
  · rw [if_pos h]
    refine sumS_congr fun n' p' => ?_
    by_cases e : n' = n - 1 ∧ p' = p - x
    · rw [if_pos e, if_pos (by omega)]
    · rw [if_neg e, if_neg (by omega)]
  · rw [if_neg h, sumS_congr (h := fun _ _ => 0) (fun n' p' => by rw [if_neg (by omega)]), sumS_zero]
theorem cn_le (l : List Nat) (n p : Nat) : cn l n p ≤ 2 ^ l.length := by
  induction l generalizing n p with
  | nil => rw [cn_nil]; split <;> simp
  | cons x l ih =>
    have h1 : cn (x :: l) n p = cn l n p + sumS l (fun n' p' => if n' + 1 = n ∧ x + p' = p then 1 else 0) := rfl
    have h2 : sumS l (fun n' p' => if n' + 1 = n ∧ x + p' = p then 1 else 0) ≤ 2 ^ l.length := by
      by_cases h : 1 ≤ n ∧ x ≤ p
      · rw [sumS_congr (h := fun n' p' => if n' = n - 1 ∧ p' = p - x then 1 else 0) (fun n' p' => by
          by_cases e : n' = n - 1 ∧ p' = p - x
          · rw [if_pos e, if_pos (by omega)]
          · rw [if_neg e, if_neg (by omega)])]
        exact ih _ _
      · rw [sumS_congr (h := fun _ _ => 0) (fun n' p' => by rw [if_neg (by omega)]), sumS_zero]
        exact Nat.zero_le _
    rw [h1, List.length_cons, Nat.pow_succ]
    have := ih n p
    omega
/-- the table of a suit's cards, the first j ranks -/
def ljTo (h s j : Nat) : List Nat := ((List.range j).filter fun i => h.testBit (13 * s + i)).map ptC
theorem ljTo_succ (h s j : Nat) : ljTo h s (j + 1) = ljTo h s j ++ if h.testBit (13 * s + j) then [ptC j] else [] := by
  unfold ljTo
  rw [List.range_succ, List.filter_append, List.map_append]
  congr 1
  cases e : h.testBit (13 * s + j) <;> simp [e]
theorem ljTo_len (h s j : Nat) : (ljTo h s j).length ≤ j := by
  unfold ljTo
  rw [List.length_map]
  exact Nat.le_trans (List.length_filter_le _ _) (by simp)
theorem ljTo_all (h s : Nat) : ljTo h s 13 = sufL (scards h s) := by
  rw [← rks_suf]
  unfold ljTo rksOf
  congr 1
  exact List.filter_congr fun i hi => by rw [scards_bit _ _ _ (by simpa using hi)]
theorem hold_cn (x n q : Nat) (hx : x < 8192) (hn : n < 14) (hq : q < 11) : holdV x (n * 11 + q) = cn (sufL x) n q := by
  unfold cn
  rw [← T2_hold x hx]
  unfold T2
  rw [sumN_one hn _ (fun i _ hne => by
    rw [sumN_congr (h := fun _ => 0) (fun q' _ => by dsimp only; rw [if_neg (by omega), Nat.mul_zero]), sumN_zero]), sumN_one hq _ (fun i _ hne => by dsimp only; rw [if_neg (by omega), Nat.mul_zero])]
  dsimp only
  rw [if_pos ⟨rfl, rfl⟩, Nat.mul_one]
def tabOf (l : List Nat) : Nat → Nat := fun i => cn l (i / 11) (i % 11)
theorem tab_hold (h s : Nat) : tab 154 (tabOf (ljTo h s 13)) = tab 154 (holdV (scards h s)) := tab_congr fun i hi => by
  unfold tabOf
  rw [ljTo_all, ← hold_cn _ _ _ (scards_lt h s) (by omega) (by omega)]
  congr 1
  omega
/-- while a card is being added: the entries before (n, m) are as they were -/
def upTo (l l' : List Nat) (n m : Nat) : Nat → Nat := fun i => if n < i / 11 ∨ (i / 11 = n ∧ m ≤ i % 11) then cn l' (i / 11) (i % 11) else cn l (i / 11) (i % 11)
theorem upTo_start (l l' : List Nat) : tab 154 (tabOf l) = tab 154 (upTo l l' 13 11) := tab_congr fun i hi => by
  unfold upTo tabOf
  rw [if_neg (by omega)]
theorem upTo_step (l : List Nat) (x n1 q : Nat) (hn : n1 + 1 < 14) (hp : q + x < 11) : tab 154 (bump (upTo l (l ++ [x]) (n1 + 1) (q + x + 1)) ((n1 + 1) * 11 + (q + x)) (cn l n1 q)) = tab 154 (upTo l (l ++ [x]) (n1 + 1) (q + x)) := tab_congr fun i hi => by
  unfold bump upTo
  by_cases e : i = (n1 + 1) * 11 + (q + x)
  · subst e
    have e1 : ((n1 + 1) * 11 + (q + x)) / 11 = n1 + 1 := by omega
    have e2 : ((n1 + 1) * 11 + (q + x)) % 11 = q + x := by omega
    rw [if_pos rfl, e1, e2, if_neg (by omega), if_pos (by omega), cn_snoc, if_pos (by omega)]
    congr 2
    omega
  · rw [if_neg e]
    by_cases h : n1 + 1 < i / 11 ∨ (i / 11 = n1 + 1 ∧ q + x + 1 ≤ i % 11)
    · rw [if_pos h, if_pos (by omega)]
    · rw [if_neg h, if_neg (by omega)]
theorem upTo_row (l : List Nat) (x n : Nat) : tab 154 (upTo l (l ++ [x]) (n + 1) x) = tab 154 (upTo l (l ++ [x]) n 11) := tab_congr fun i hi => by
  unfold upTo
  by_cases h1 : n + 1 < i / 11 ∨ (i / 11 = n + 1 ∧ x ≤ i % 11)
  · rw [if_pos h1, if_pos (by omega)]
  · rw [if_neg h1]
    by_cases h2 : n < i / 11 ∨ (i / 11 = n ∧ 11 ≤ i % 11)
    · rw [if_pos h2, cn_snoc, if_neg (by omega)]; rfl
    · rw [if_neg h2]
theorem upTo_end (l : List Nat) (x : Nat) : tab 154 (upTo l (l ++ [x]) 0 11) = tab 154 (tabOf (l ++ [x])) := tab_congr fun i hi => by
  unfold upTo tabOf
  by_cases h2 : 0 < i / 11 ∨ (i / 11 = 0 ∧ 11 ≤ i % 11)
  · rw [if_pos h2]
  · rw [if_neg h2, cn_snoc, if_neg (by omega)]; rfl
theorem upTo_old1 (l l' : List Nat) (n m p : Nat) (hp : p < m) (hp11 : p < 11) : upTo l l' n m (n * 11 + p) = cn l n p := by
  unfold upTo
  rw [show (n * 11 + p) / 11 = n by omega, show (n * 11 + p) % 11 = p by omega, if_neg (by omega)]
theorem upTo_old2 (l l' : List Nat) (n1 m q : Nat) (hq : q < 11) : upTo l l' (n1 + 1) m (n1 * 11 + q) = cn l n1 q := by
  unfold upTo
  rw [show (n1 * 11 + q) / 11 = n1 by omega, show (n1 * 11 + q) % 11 = q by omega, if_neg (by omega)]
theorem zero101 : ∀ w : World, (zeroValue 101).run Try.prog w = .ok (.agg (tab 154 fun _ => 0)) w := by
  have h : (Try.prog.info? 101).map (fun i => (i.zero, i.size)) = some (some (.agg (tab 154 fun _ => 0)), 154) := by kernel_rfl
  cases hq : Try.prog.info? 101 with
  | none => simp [hq] at h
  | some i =>
    simp [hq] at h
    intro w
    simp [zeroValue, typeInfo, hq, h.1]
theorem size101 : (Try.prog.info? 101).map (·.size) = some 154 := by kernel_rfl
theorem under101 : Try.prog.underlying 101 = some (.array 14 100) := by kernel_rfl
theorem tab_start : tab 154 (bump (fun _ => 0) 0 1) = tab 154 (tabOf []) := tab_congr fun i hi => by
  unfold bump tabOf
  rw [cn_nil]
  by_cases e : i = 0
  · subst e; rfl
  · rw [if_neg e, if_neg (by omega)]

set_option maxHeartbeats 4000000 in
theorem rf_holdings (h s : Nat) (hh : W64 h) (hs : s < 4) (w : World) : Calls Try.prog 63 #[.int .u64 (h : Int), .int .i64 (s : Int)] w fun e w' => e = .returned (.agg (tab 154 (holdV (scards h s)))) ∧ Below w.heap.size w w' := by
  have HT := Lib.hid (tab_hold h s)
  have hz := zero101
  go_enter Try.func63, Try.ntmps63
  go_wp2_with fail
  have hst : (tab 154 fun _ => 0).setIfInBounds 0 (Value.int .i64 1) = tab 154 (tabOf (ljTo h s 0)) := by
    have := tab_set 154 (fun _ => 0) 0 1
    rw [show ljTo h s 0 = [] from rfl, ← tab_start, ← this]
    rfl
  rw [hst]
  have hb0 : Below w.heap.size w ((w.alloc (.cells (tab 154 fun _ => 0) 101)).alloc (.cells (tab 154 (tabOf (ljTo h s 0))) 101)) := ((Below.refl _ _).alloc (Nat.le_refl _) _).alloc (by simp) _
  have hr0 : Row ((w.alloc (.cells (tab 154 fun _ => 0) 101)).alloc (.cells (tab 154 (tabOf (ljTo h s 0))) 101)) (w.heap.size + 1) 101 (tab 154 (tabOf (ljTo h s 0))) := Row.new1 _ _ _ _
  have hq0 : Row ((w.alloc (.cells (tab 154 fun _ => 0) 101)).alloc (.cells (tab 154 (tabOf (ljTo h s 0))) 101)) w.heap.size 101 (tab 154 fun _ => 0) := (Row.new _ _ _).alloc _
  clear hst
  have HCB : Hid (∀ j, j ≤ 13 → ∀ n p, cn (ljTo h s j) n p ≤ 8192) := Lib.hid fun j hj n p => Nat.le_trans (cn_le _ _ _) (Nat.le_trans (Nat.pow_le_pow_right (n := 2) (by decide) (show (ljTo h s j).length ≤ 13 by have := ljTo_len h s j; omega)) (by decide))
  go_loopw [6] (fun i wr => ∃ (j : Nat), j ≤ 13 ∧ i = .int .i64 ((13 * s + j : Nat) : Int) ∧ Below w.heap.size w wr ∧ Row wr (w.heap.size + 1) 101 (tab 154 (tabOf (ljTo h s j))) ∧ Row wr w.heap.size 101 (tab 154 fun _ => 0)) (fun i _ => 13 * s + 13 - (intOf i).toNat)
  case atStart => exact ⟨0, by omega, by simp, hb0, hr0, hq0⟩
  case round =>
    clear hb0 hr0 hq0
    obtain ⟨j, hj, rfl, hB, hR, hQ⟩ := hrel
    by_cases hlt : j < 13
    · have HSU := Lib.hid (ljTo_succ h s j)
      have HCJ := Lib.hid (HCB.out j hj)
      have HNX : Hid (13 * s + (j + 1) = 13 * s + j + 1) := Lib.hid rfl
      have hmod : (13 * s + j) % 13 = j := by omega
      obtain ⟨c, hc⟩ : ∃ c, 13 * s + j = c := ⟨_, rfl⟩
      have hd : decide ((c : Int) < 13 * (s : Int) + 13) = true := by simp; omega
      have hcb : c < 64 := by omega
      rw [hc] at HSU HNX hmod
      rw [hc]
      have HC := Lib.hid hc
      have HMOD := Lib.hid hmod
      clear hc hmod
      have hbt := shr_even h c
      cases h0 : h.testBit c
      · rw [h0] at hbt HSU
        have HSU2 : Hid (ljTo h s (j + 1) = ljTo h s j) := Lib.hid (by rw [HSU.out]; simp)
        have HB := Lib.hid hB
        have HR := Lib.hid hR
        have HQ := Lib.hid hQ
        clear hB hR hQ h0 HSU
        simp only [Bool.not_false] at hbt
        go_wp2_with fail
        exact ⟨⟨j + 1, by omega, by rw [HNX.out]; simp, HB.out, by rw [HSU2.out]; exact HR.out, HQ.out⟩, by have := HC.out; simp [intOf]; omega⟩
      · rw [h0, if_pos rfl] at HSU
        rw [h0] at hbt
        simp only [Bool.not_true] at hbt
        clear h0
        generalize ljTo h s j = l at *
        obtain ⟨x, Hx⟩ : ∃ x, Hid (ptC j = x) := ⟨_, Lib.hid rfl⟩
        rw [Hx.out] at HSU
        have hx4 : x ≤ 4 := by rw [← Hx.out]; unfold ptC; omega
        have HPT := Lib.hid fun w' => rf_points c w'
        rw [HMOD.out, Hx.out] at HPT
        rw [upTo_start l (l ++ [x])] at hR
        go_wp2_with fail
        go_loopw [7] (fun i wr => ∃ (n : Nat), n ≤ 13 ∧ i = .int .i64 (n : Int) ∧ Below w.heap.size w wr ∧ Row wr (w.heap.size + 1) 101 (tab 154 (upTo l (l ++ [x]) n 11)) ∧ Row wr w.heap.size 101 (tab 154 fun _ => 0)) (fun i _ => (intOf i).toNat)
        case atStart => exact ⟨13, by omega, rfl, hB, hR, hQ⟩
        case round =>
          clear hB hR hQ
          obtain ⟨n, hn, rfl, hB, hR, hQ⟩ := hrel
          rcases Nat.eq_zero_or_pos n with hz0 | hz0
          · subst hz0
            rw [upTo_end] at hR
            have HB := Lib.hid hB
            have HR := Lib.hid hR
            have HQ := Lib.hid hQ
            clear hB hR hQ
            simp only [show ((0 : Nat) : Int) = 0 from rfl]
            go_wp2_with fail
            go_roundw
            · exact ⟨j + 1, by omega, by rw [HNX.out]; simp, HB.out, by rw [HSU.out]; exact HR.out, HQ.out⟩
            · have := HC.out; simp [intOf]; omega
          · have hd2 : decide ((0 : Int) < (n : Int)) = true := by simp; omega
            go_wp2_with fail
            go_loopw [8] (fun i wr => ∃ (m : Nat), x ≤ m ∧ m ≤ 11 ∧ i = .int .i64 ((m : Int) - 1) ∧ Below w.heap.size w wr ∧ Row wr (w.heap.size + 1) 101 (tab 154 (upTo l (l ++ [x]) n m)) ∧ Row wr w.heap.size 101 (tab 154 fun _ => 0)) (fun i _ => (intOf i + 1).toNat)
            case atStart => exact ⟨11, by omega, by omega, rfl, hB, hR, hQ⟩
            case round =>
              clear hB hR hQ
              obtain ⟨m, hm1, hm2, rfl, hB, hR, hQ⟩ := hrel
              have HB := Lib.hid hB
              have HR := Lib.hid hR
              have HQ := Lib.hid hQ
              clear hB hR hQ
              go_wp2_with fail
              refine (HPT.out _).mono ?_
              rintro e w' ⟨rfl, rfl⟩
              rcases Nat.lt_or_ge x m with hxm | hxm
              · obtain ⟨P, hP⟩ : ∃ P, m = P + 1 := ⟨m - 1, by omega⟩
                have hmi : (m : Int) - 1 = (P : Int) := by omega
                rw [hmi]
                obtain ⟨n1, hn1⟩ : ∃ n1, n = n1 + 1 := ⟨n - 1, by omega⟩
                obtain ⟨q, hq⟩ : ∃ q, P = q + x := ⟨P - x, by omega⟩
                have e1 : upTo l (l ++ [x]) n m (n * 11 + P) = cn l n P := upTo_old1 l _ n m P (by omega) (by omega)
                have e2 : upTo l (l ++ [x]) n m (n1 * 11 + q) = cn l n1 q := by rw [hn1]; exact upTo_old2 l _ n1 m q (by omega)
                have hbump : tab 154 (bump (upTo l (l ++ [x]) n m) (n * 11 + P) (cn l n1 q)) = tab 154 (upTo l (l ++ [x]) n P) := by
                  rw [hn1, hP, hq]
                  exact upTo_step l x n1 q (by omega) (by omega)
                have c1 := (HR.out.cell (n * 11 + P)).trans (tab_get 154 _ _ (by omega))
                have c2 := (HR.out.cell (n1 * 11 + q)).trans (tab_get 154 _ _ (by omega))
                rw [e1] at c1
                rw [e2] at c2
                have HST : Hid (∀ W, Row W (w.heap.size + 1) 101 (tab 154 (upTo l (l ++ [x]) n m)) → Row (W.setCell ⟨w.heap.size + 1, n * 11 + P, none⟩ (.int .i64 ((cn l n P : Int) + (cn l n1 q : Int)))) (w.heap.size + 1) 101 (tab 154 (upTo l (l ++ [x]) n P))) := Lib.hid fun W hW => by
                  have := hW.set (n * 11 + P) (.int .i64 ((upTo l (l ++ [x]) n m (n * 11 + P) + cn l n1 q : Nat) : Int))
                  rw [tab_set, hbump, e1] at this
                  simpa using this
                have hva := HCJ.out n P
                have hvb := HCJ.out n1 q
                generalize cn l n P = va at *
                generalize cn l n1 q = vb at *
                have hnn1 : IntKind.i64.wrap ((n : Int) - 1) = (n1 : Int) := by rw [IntWalk.i64_in _ (by omega)]; omega
                have hnn2 : (n : Int) - 1 = (n1 : Int) := by omega
                have hPq : IntKind.i64.wrap ((P : Int) - (x : Int)) = (q : Int) := by rw [IntWalk.i64_in _ (by omega)]; omega
                have hPq2 : (P : Int) - (x : Int) = (q : Int) := by omega
                have hsum : IntKind.i64.wrap ((va : Int) + (vb : Int)) = (va : Int) + (vb : Int) := IntWalk.i64_in _ (by omega)
                have b1 : n < 14 := by omega
                have b2 : n1 < 14 := by omega
                have b3 : P < 11 := by omega
                have b4 : q < 11 := by omega
                have b1i : (n : Int) < 14 := by omega
                have b2i : (n1 : Int) < 14 := by omega
                have b3i : (P : Int) < 11 := by omega
                have b4i : (q : Int) < 11 := by omega
                have hcond : decide ((x : Int) ≤ (P : Int)) = true := by simp; omega
                have r1 := fun dd os => cell_regrown c1 dd os
                have r2 := fun dd os => cell_regrown c2 dd os
                have HPX := Lib.hid (And.intro hP hq)
                clear e1 e2 hbump hP hq hmi hn1 hva hvb
                go_wp2_with fail
                refine wp_region_below_tail 19 (by kernel_rfl) (by kernel_rfl) ?_
                simp only [List.take_succ_cons, List.take_zero, List.drop_succ_cons, List.drop_zero]
                repeat (first | go_big_quiet_step ((exact Calls.regrown_of ((HPT.out _).mono fun _ _ ⟨he, hw⟩ => ⟨he, hw ▸ Below.refl _ _⟩))) | quiet_step ((exact Calls.regrown_of ((HPT.out _).mono fun _ _ ⟨he, hw⟩ => ⟨he, hw ▸ Below.refl _ _⟩))))
                refine wpQuiet_nil ?_
                rintro _ ⟨p, rfl⟩
                have hb := below_regrown wr p.d p.os
                have hR2 := HR.out.later hb
                have hQ2 := HQ.out.later hb
                have HB2 := Lib.hid (HB.out.trans (hb.mono HB.out.size))
                have HPT2 := HPT
                generalize grow (redrawn wr p.d) p.os = wa at *
                have c3 := hR2.cell (n * 11 + P)
                have f3 := hR2.frozen (n * 11 + P)
                have c4 : wa.cell? ⟨w.heap.size + 1, n * 11 + P, none⟩ = some (.int .i64 (va : Int)) := by
                  rw [c3, ← HR.out.cell]; exact c1
                have HN := Lib.hid (HST.out wa hR2)
                have HQ2 := Lib.hid (hQ2.other (i := n * 11 + P) (v := .int .i64 ((va : Int) + (vb : Int))) (show w.heap.size ≠ w.heap.size + 1 by omega))
                clear hb r1 r2 c1 c2 c3 hR2 hQ2 hnn1 hnn2 hPq hPq2
                go_wp2_with fail
                go_roundw
                · exact ⟨P, by have := HPX.out; omega, by have := HPX.out; omega, rfl, HB2.out.setCell (by show w.heap.size ≤ w.heap.size + 1; omega) _, HN.out, HQ2.out⟩
                · have := HPX.out; simp [intOf]; omega
              · obtain rfl : m = x := by omega
                obtain ⟨n1, hn1⟩ : ∃ n1, n = n1 + 1 := ⟨n - 1, by omega⟩
                have HRN : Hid (Row wr (w.heap.size + 1) 101 (tab 154 (upTo l (l ++ [m]) n1 11))) := Lib.hid (by
                  have := HR.out
                  rwa [hn1, upTo_row] at this)
                have hcond : decide ((m : Int) ≤ (m : Int) - 1) = false := by simp; omega
                have hnn2 : (n : Int) - 1 = (n1 : Int) := by omega
                have HNN := Lib.hid hn1
                clear hn1
                go_wp2_with fail
                go_roundw
                · exact ⟨n1, by have := HNN.out; omega, by simp, HB.out, HRN.out, HQ.out⟩
                · have := HNN.out; simp [intOf]; omega
    · obtain rfl : j = 13 := by omega
      have hd : decide (((13 * s + 13 : Nat) : Int) < 13 * (s : Int) + 13) = false := by simp
      rw [HT.out] at hR
      have HB := Lib.hid hB
      have HR := Lib.hid hR
      have HQ := Lib.hid hQ
      clear hB hR hQ hz
      go_wp2_with (first | refine wpList_load_row rfl 101 (.tmp 5) rfl (w.heap.size + 1) rfl 101 (tab 154 (holdV (scards h s))) (0, 0) _ HR.out under101 rfl (by rw [size101, tab_size]) ?_ | refine wpList_store_row rfl 101 (.tmp 4) (.tmp 54) rfl w.heap.size (tab 154 (holdV (scards h s))) rfl rfl 101 _ HQ.out (by rw [size101, tab_size]) (by rw [tab_size, tab_size]) (tab_one _ _) ?_)
      refine bodyPost_ret (results_cell_row (p := 4) rfl _ _ w.heap.size _ (tab 154 (holdV (scards h s))) (0, 0) _ rfl (setRow_heap _ _ _ _ _ _ HQ.out) under101 rfl (by rw [size101, tab_size])) rfl ⟨rfl, below_setRow HB.out (Nat.le_refl _) _⟩
end Go.Proofs.Ytmkplfndbjcflaa
