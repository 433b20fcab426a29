/- revoke.Find over this seat's program. -/
import Derived.Test.YtdlnilebnobllaaRvWin
import Derived.Test.YtdlnilebnobllaaRvEst
import Derived.Test.YtdlnilebnobllaaRound
namespace Go.Proofs.Ytdlnilebnobllaa
open Go.RowKit Go.Shelf Go.Sort
attribute [local go_sem] Oper.semAt_some

theorem info_rvk : (Try.prog.info? 50).map (fun i => (i.zero, i.size, i.bytes)) = some (some (.agg #[.int .i64 0, .int .u8 0, .int .u8 0, .int .u8 0, .bool false]), 5, 16) := by kernel_rfl
/-- at the head of a round of the inner loop of revoke.Find -/
def FinRel (Bl base n T : Nat) (x : Rnd) (l : List Rvk) (ad : Option Addr) (c : Nat) (G S : Nat → Prop) (W : World) (gk : Nat) (i : Value) (wr : World) : Prop :=
  ∃ j : Nat, gk = x.cards.length - j ∧ j ≤ x.cards.length ∧ i = .int .i64 (j : Int) ∧ Bag Rvk.cells 5 50 45 Bl base G (findTo x l j) wr ∧
    Row wr T 79 #[.int .u64 (x.h 0 : Int), .int .u64 (x.h 1 : Int), .int .u64 (x.h 2 : Int), .int .u64 (x.h 3 : Int), .int .u8 (x.leader : Int), .int .u8 (x.winner : Int), .slice ad x.cards.length c] ∧ Fr base n G S W wr
theorem findTo_len (x : Rnd) (l : List Rvk) : ∀ k, (findTo x l k).length ≤ l.length + k
  | 0 => Nat.le_refl _
  | k + 1 => by
    have := findTo_len x l k
    unfold findTo findStep
    split
    · simp only [List.length_append, estab_length, List.length_cons, List.length_nil]; omega
    · rw [estab_length]; omega
theorem foldl_len : ∀ (l : List Rnd) (acc : List Rvk), (l.foldl findRnd acc).length ≤ acc.length + sumTo l
  | [], acc => Nat.le_add_right _ _
  | x :: l, acc => by
    have h1 := foldl_len l (findRnd acc x)
    have h2 := findTo_len x acc x.cards.length
    simp only [List.foldl_cons, sumTo, List.map_cons, List.sum_cons] at *
    unfold findRnd at *
    omega
theorem findAll_len (l : List Rnd) : (findAll l).length ≤ sumTo l := by
  have := foldl_len l []
  simpa [findAll] using this
set_option maxHeartbeats 2000000 in
set_option maxRecDepth 100000 in
theorem rev_find_ok (r : Rc) (a : Option Addr) (len cap : Nat) (w : World) (hok : r.ok len cap) (hz : Byt w a len r.zs) (hab : ∀ ad, a = some ad → ad.block < w.heap.size) (hd : r.dealt = true) (hE : r.rightV = (-1, 0)) (h60 : len ≤ 60000) :
    Calls Try.prog 21 #[r.v a len cap] w fun e w' => ∃ v, e = .returned (.tuple #[v, .int .i64 0]) ∧ OwnV w' w.heap.size v (findAll r.rnds) ∧ Below w.heap.size w w' := by
  obtain ⟨i0, hi, hz0, hz1, hz2⟩ := info_parts info_rvk
  refine (callsIn_wide (n := 9)).1 (callsIn_of_wp_marks Try.func21 rfl trivial ?_)
  simp only [Try.ntmps21, List.size_toArray, List.length_cons, List.length_nil, Nat.reduceAdd, Nat.reduceSub, Array.replicate_succ, Array.replicate_zero, List.push_toArray, List.append_toArray, List.nil_append, List.cons_append]
  have hB0 := (Below.refl w.heap.size w).alloc (Nat.le_refl _) (.cells (r.cells a len cap) 27)
  have HR := rev_right_ok r a len cap _ hok (hz.below (Nat.le_refl _) hB0) (fun ad h => by have := hab ad h; simp; omega) hd
  rw [hE] at HR
  have HRT := Lib.hid HR
  have HB0 := Lib.hid hB0
  clear HR hB0 hE
  gi_wp2_with fail
  refine (callsIn_wide.2 HRT.out).mono ?_
  rintro e w1 ⟨rfl, hb1⟩
  have hsz1 := hb1.size
  simp only [World.size_alloc] at hsz1
  have hszl : w.heap.size < w1.heap.size := by omega
  have hBw := HB0.out.trans (hb1.mono (by simp))
  have hRec := (Row.new w 27 (r.cells a len cap)).below (by simp) hb1
  have HREC := Lib.hid hRec
  have HBW := Lib.hid hBw
  clear hBw hb1
  have k0 := hRec.cell 0
  have k1 := hRec.cell 1
  have k2 := hRec.cell 2
  have k3 := hRec.cell 3
  have k4 := hRec.cell 4
  have k5 := hRec.cell 5
  have k6 := hRec.cell 6
  clear hRec
  simp at k0 k1 k2 k3 k4 k5 k6
  gi_wp2_with fail
  refine (callsIn_wide.2 (rev_rounds r a len cap _)).mono ?_
  rintro e w2 ⟨rfl, rfl⟩
  gi_wp2_with fail
  have hBn := (HBW.out.alloc (by omega) (.cells #[.slice none 0 0] 45)).alloc (by simp; omega) (.cells (r.cells a len cap) 27)
  have HS1 : Hid (∀ b, (b = w1.heap.size + 1 ∨ ∃ ad, a = some ad ∧ b = ad.block) → b < w1.heap.size + 2) := by
    rintro b (rfl | ⟨ad, h, rfl⟩)
    · omega
    · have := hab ad h; omega
  have HS2 : Hid (¬ (w1.heap.size = w1.heap.size + 1 ∨ ∃ ad, a = some ad ∧ w1.heap.size = ad.block)) := by
    rintro (h | ⟨ad, h, h'⟩)
    · omega
    · have := hab ad h; omega
  refine range_rounds2 (w1.heap.size + 1) r a len cap (by decide) rfl (by simp) (by simp) (by simp) (by decide) (by decide) (by decide)
    (by have := Row.new (w1.alloc (.cells #[.slice none 0 0] 45)) 27 (r.cells a len cap); simpa using this) (hz.below (Nat.le_refl _) hBn) hok
    (fun b => b = w1.heap.size + 1 ∨ ∃ ad, a = some ad ∧ b = ad.block) (.inl rfl) (fun ad h => .inr ⟨ad, h, rfl⟩)
    (fun b h => by have := HS1.out b h; simpa using this)
    (fun G pre W => Bag Rvk.cells 5 50 45 w1.heap.size (w1.heap.size + 2) G (findAll pre) W ∧ (Below w.heap.size w W ∧ Byt W a len r.zs))
    (stable_and (stable_bag (fun pre => findAll pre) (by simp; omega)) (stable_and (stable_below (by simp; omega) (Nat.le_refl _)) (stable_byt (fun ad h => by have := hab ad h; simp; omega))))
    ⟨(Bag.new rvk_len _).alloc _, hBn, hz.below (Nat.le_refl _) hBn⟩ ?body ?done
  case body =>
    rintro l G pre x T W ⟨hbag, hB, hzW⟩ hT hTw hG hsz hpre
    simp only [World.size_alloc] at hsz hTw hG
    obtain ⟨ad, c, hcv, hbt, h4, hl4, hw64, hwin, hnum, hads⟩ := rnd_byt (cap := cap) hzW hok hpre
    have hsm := hz.small
    have hlc := findAll_len (pre ++ [x])
    have hlc' := sumTo_le hpre
    have hlen := hz.length
    have hT' : Row W T 79 #[.int .u64 (x.h 0 : Int), .int .u64 (x.h 1 : Int), .int .u64 (x.h 2 : Int), .int .u64 (x.h 3 : Int), .int .u8 (x.leader : Int), .int .u8 (x.winner : Int), .slice ad x.cards.length c] := by rw [← hcv]; exact hT
    have HADS : Hid (∀ ad0, ad = some ad0 → (ad0.block = w1.heap.size + 1 ∨ ∃ a0, a = some a0 ∧ ad0.block = a0.block)) := fun ad0 h => .inr (hads ad0 h)
    clear hT hcv hads
    simp only [inFr2, List.setIfInBounds_toArray, List.set]
    have t4 := hT'.cell 4
    have t6 := hT'.cell 6
    simp at t4 t6
    have hTl := hT'.lt
    gi_wp2
    clear t4 t6
    obtain ⟨wo, hwo⟩ : ∃ wo : World, wo = W := ⟨_, rfl⟩
    subst hwo
    gi_loopg [28] x.cards.length (FinRel w1.heap.size (w1.heap.size + 2) w.heap.size T x (findAll pre) ad c G (fun b => b = w1.heap.size + 1 ∨ ∃ ad, a = some ad ∧ b = ad.block) wo)
    case atStart =>
      exact ⟨0, rfl, by omega, rfl, hbag, hT', Fr.refl _ _ _ _ _⟩
    case round =>
      obtain ⟨j, rfl, hj, rfl, ⟨v, hbx, how, hvg⟩, hTr, hFr⟩ := hrel
      by_cases hjl : j < x.cards.length
      · have hbr := hbt.kept (S := fun b => b = w1.heap.size + 1 ∨ ∃ ad, a = some ad ∧ b = ad.block) HADS.out hFr.kept
        obtain ⟨b, off, hadd, hbb, hcs⟩ := hbr.at (by omega)
        subst hadd
        have hc0 := hcs 0 (by omega)
        have hcj := hcs j hjl
        rw [Nat.add_zero] at hc0
        clear hcs
        have hby0 := hbr.byte 0
        have hbyj := hbr.byte j
        have t4 := hTr.cell 4
        have t6 := hTr.cell 6
        have c0 := hbx.cell 0
        simp at t4 t6 c0
        have HST : Hid (findTo x (findAll pre) (j + 1) = if x.cards.getD j 0 / 13 ≠ x.cards.getD 0 0 / 13 ∧ land (shr (x.h ((x.leader + j) % 4)) (13 * (x.cards.getD 0 0 / 13))) 8191 ≠ 0
          then estab (findTo x (findAll pre) j) ((x.num : Int) - 1) ((x.leader + j) % 4) ++ [⟨x.num, (x.leader + j) % 4, x.cards.getD 0 0 / 13, x.cards.getD j 0, false⟩]
          else estab (findTo x (findAll pre) j) ((x.num : Int) - 1) ((x.leader + j) % 4)) := rfl
        generalize x.cards.getD 0 0 = d0 at *
        generalize x.cards.getD j 0 = dj at *
        have r0 := fun dd os => cell_regrown c0 dd os
        have r4 := fun dd os => cell_regrown t4 dd os
        have r6 := fun dd os => cell_regrown t6 dd os
        have rc0 := fun dd os => cell_regrown hc0 dd os
        have rcj := fun dd os => cell_regrown hcj dd os
        have hpos : 0 < x.cards.length := by omega
        have e1 : IntKind.u8.wrap (j : Int) = (j : Int) := by rw [IntKind.wrap_u8]; omega
        have e2 : IntKind.u8.wrap ((x.leader : Int) + (j : Int)) = (x.leader : Int) + (j : Int) := by rw [IntKind.wrap_u8]; omega
        have e5 : IntKind.u8.wrap ((d0 : Int) / 13) = (d0 : Int) / 13 := by rw [IntKind.wrap_u8]; omega
        gi_wp2
        refine wpIn_region_round (by kernel_rfl) (by kernel_rfl) (by kernel_rfl) ?_
        repeat (quiet_step (fail))
        refine wpQuiet_nil ?_
        rintro _ ⟨p, rfl⟩
        clear r0 r4 r6 rc0 rcj e1 e2 e5
        have hb3 := below_regrown wr p.d p.os
        generalize grow (redrawn wr p.d) p.os = w3 at *
        rw [show ((x.leader : Int) + (j : Int)).tmod 4 = (((x.leader + j) % 4 : Nat) : Int) by rw [Int.tmod_eq_emod_of_nonneg (by omega)]; omega, show (d0 : Int) / 13 = ((d0 / 13 : Nat) : Int) by omega]
        have hst : (x.leader + j) % 4 < 4 := Nat.mod_lt _ (by omega)
        have hsu : d0 / 13 < 20 := by omega
        generalize (x.leader + j) % 4 = st at *
        generalize d0 / 13 = su at *
        have how3 := how.below hb3
        have hlen3 : (findTo x (findAll pre) j).length ≤ 60000 := by
          have h1 := findTo_len x (findAll pre) j
          have h2 := findAll_len pre
          have h3 := sumTo_snoc pre x
          omega
        have hes := rev_establish_any (findTo x (findAll pre) j) ((x.num : Int) - 1) st (w1.heap.size + 2) v w3 how3 hlen3
        have hbx3 := hbx.below hbx.lt hb3
        have hTr3 := hTr.below hTr.lt hb3
        have c3 := hbx3.cell 0
        have hFr3 := hFr.trans (Fr.of_below hb3 (by have := hFr.below.size; omega) (fun b hb => Nat.lt_of_lt_of_le (hG b hb).1 hFr.below.size))
        simp at c3
        clear c0 t4 t6
        gi_wp2_with fail
        refine (callsIn_wide.2 hes).mono ?_
        rintro e w4 ⟨rfl, how4, hg4⟩
        clear hes c3
        have hbx4 : Row w4 w1.heap.size 45 #[v] := hbx3.same (hg4.block _ hbx3.lt (fun e => not_row hbx3 (by decide) how3.2 e.symm))
        have hTr4 := hTr3.same (hg4.block _ hTr3.lt (fun e => not_row hTr3 (by decide) how3.2 e.symm))
        have hFr4 := hFr3.trans (Fr.grown hg4 (by have := hFr3.below.size; omega) (fun b hb => Nat.lt_of_lt_of_le (hG b hb).1 hFr3.below.size) (fun g he => ⟨by have := (how3.row he).1; omega, hvg g he, fun hS => by have h1 := HS1.out g hS; have h2 := (how3.row he).1; omega, (how3.row he).2.2⟩))
        have c4 := hbx4.cell 0
        have hst4 : st = 0 ∨ st = 1 ∨ st = 2 ∨ st = 3 := by omega
        have ch : w4.cell? ⟨T, st, none⟩ = some (.int .u64 (x.h st : Int)) := by rw [hTr4.cell st]; rcases hst4 with rfl | rfl | rfl | rfl <;> rfl
        clear hst4
        have hsh := run_shr64 (x.h st) (13 * su) .u8 (hw64 st)
        rw [show ((13 * su : Nat) : Int) = 13 * (su : Int) by omega] at hsh
        have han := run_and64 (shr (x.h st) (13 * su)) 8191 (hw64 st).shr (by unfold W64; decide)
        rw [show ((8191 : Nat) : Int) = 8191 by rfl] at han
        have how4l : (estab (findTo x (findAll pre) j) ((x.num : Int) - 1) st).length ≤ 60000 := by rw [estab_length]; exact hlen3
        generalize estab (findTo x (findAll pre) j) ((x.num : Int) - 1) st = L at *
        generalize land (shr (x.h st) (13 * su)) 8191 = m at *
        simp at c4
        by_cases q1 : dj / 13 = su
        · have q1' : ((dj : Int) / 13 != (su : Int)) = false := by rw [bne_eq_false_iff_eq]; omega
          have HN := Lib.hid (show findTo x (findAll pre) (j + 1) = L by rw [HST.out, if_neg (fun h => h.1 q1)])
          clear q1
          gi_wp2
          gi_roundg (x.cards.length - (j + 1))
          case rel => exact ⟨j + 1, rfl, by omega, by go_num, ⟨v, hbx4, by rw [HN.out]; exact how4, hvg⟩, hTr4, hFr4⟩
          case measure => omega
        · have q1' : ((dj : Int) / 13 != (su : Int)) = true := by rw [bne_iff_ne]; omega
          by_cases q2 : m = 0
          · have q2' : ((m : Int) != 0) = false := by rw [bne_eq_false_iff_eq]; omega
            have HN := Lib.hid (show findTo x (findAll pre) (j + 1) = L by rw [HST.out, if_neg (fun h => h.2 q2)])
            clear q2
            gi_wp2
            gi_roundg (x.cards.length - (j + 1))
            case rel => exact ⟨j + 1, rfl, by omega, by go_num, ⟨v, hbx4, by rw [HN.out]; exact how4, hvg⟩, hTr4, hFr4⟩
            case measure => omega
          · have q2' : ((m : Int) != 0) = true := by rw [bne_iff_ne]; omega
            have HN := Lib.hid (show findTo x (findAll pre) (j + 1) = L ++ [⟨x.num, st, su, dj, false⟩] by rw [HST.out, if_pos ⟨q1, q2⟩])
            clear q2 q1
            have hrow4 := how4.2.alloc (.cells #[.int .i64 (x.num : Int), .int .u8 (st : Int), .int .u8 (su : Int), .int .u8 (dj : Int), .bool false] 50)
            have hsz4 := hFr4.below.size
            gi_wp2_with (gi_at_builtin; refine wpListIn_append_own_at _ rfl _ _ 45 rfl (w1.heap.size + 2) 50 i0 _ 5 16 Try.underlying45 hi hz0 hz1 hz2 rfl (by decide) _ _ _ rfl hrow4 ⟨w4.heap.size, 0, none⟩ 1 1 [.int .i64 (x.num : Int), .int .u8 (st : Int), .int .u8 (su : Int), .int .u8 (dj : Int), .bool false] rfl rfl (cells_new _ _ _) (by simp [Value.oneCell']) (by unfold maxLen; omega) (by omega) (by simp; omega) ?_; intro v' w5 hown' hgrow _ hloc; obtain ⟨g', cap', rfl⟩ := ownsRow_succ hown'; obtain ⟨p1, p2, p3, p4, p5, p6, p7, p8⟩ := bag_appended (x := (⟨x.num, st, su, dj, false⟩ : Rvk)) (B := w1.heap.size + 2) (n := w.heap.size) (S := fun b => b = w1.heap.size + 1 ∨ ∃ ad, a = some ad ∧ b = ad.block) hbx4 how4 hvg (by decide) (by omega) (by omega) (by omega) (fun b hb => ⟨Nat.lt_of_lt_of_le (hG b hb).1 hsz4, (hG b hb).2⟩) HS1.out HS2.out rfl rfl hown' hgrow hloc)
            gi_roundg (x.cards.length - (j + 1))
            case rel =>
              have hTl4 := hTr4.lt
              have hTr5 := ((hTr4.alloc (.cells #[.int .i64 (x.num : Int), .int .u8 (st : Int), .int .u8 (su : Int), .int .u8 (dj : Int), .bool false] 50)).same (hgrow.block T (by simp; omega) (fun e => not_row hTr4 (by decide) how4.2 e.symm))).other (B' := w1.heap.size) (i := 0) (v := .slice (some ⟨g', 0, none⟩) (L.length + 1) cap') (row_ne hTr4 hbx4 (by decide))
              exact ⟨j + 1, rfl, by omega, by go_num, by rw [HN.out]; exact p4, hTr5, hFr4.trans ⟨p5, p6, p7, p8⟩⟩
            case measure => omega
      · obtain rfl : j = x.cards.length := by omega
        have HSN := Lib.hid (findAll_snoc pre x)
        gi_wp2
        refine ⟨by rw [World.size_alloc, World.size_alloc]; exact hFr.keeps, hFr.same, hFr.kept, ⟨v, hbx, by rw [HSN.out]; exact how, hvg⟩, hB.trans hFr.below, hzW.kept (fun ad h => .inr ⟨ad, h, rfl⟩) hFr.kept⟩
  case done =>
    rintro D G W hD ⟨⟨v, hbx, how, hvg⟩, hB, _⟩ hK
    have c0 := hbx.cell 0
    simp at c0
    gi_wp2
    refine ⟨by simp, .inl ⟨_, _, rfl, run_takeDeferred hK, ?_⟩⟩
    exact ⟨_, results_tmp2 rfl _ _ _, v, rfl, (how.putObj _ hK rfl).mono (by omega), hB.trans (belowK_b (w := w) (Nat.le_refl _) W D _ _ (by simp at hD; omega) hK rfl rfl)⟩
theorem rev_find_no (r : Rc) (a : Option Addr) (len cap : Nat) (w : World) (v1 : Int) (E : Nat) (hE : E ≠ 0) (HRT : ∀ w1, Below w.heap.size w w1 → Calls Try.prog 23 #[r.v a len cap] w1 fun e w' => e = .returned (.tuple #[.int .i64 v1, .int .i64 (E : Int)]) ∧ Below w1.heap.size w1 w') :
    Calls Try.prog 21 #[r.v a len cap] w fun e w' => e = .returned (.tuple #[.slice none 0 0, .int .i64 (E : Int)]) ∧ Below w.heap.size w w' := by
  have hB0 := (Below.refl w.heap.size w).alloc (Nat.le_refl _) (.cells (r.cells a len cap) 27)
  have HR := Lib.hid (HRT _ hB0)
  have HB0 := Lib.hid hB0
  clear HRT hB0
  have hE' : ((E : Int) != 0) = true := by rw [bne_iff_ne]; omega
  go_enter Try.func21, Try.ntmps21
  go_wp2_with fail
  refine HR.out.mono ?_
  rintro e w1 ⟨rfl, hb1⟩
  have hbb := Lib.hid (HB0.out.trans (hb1.mono (by simp)))
  clear hb1
  go_wp2
  go_ret2
  exact ⟨rfl, hbb.out⟩
end Go.Proofs.Ytdlnilebnobllaa
