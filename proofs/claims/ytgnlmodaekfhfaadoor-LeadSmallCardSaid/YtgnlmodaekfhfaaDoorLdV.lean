/- finesselaw14.Made over this seat's program: the deal of a sketch. -/
import Derived.Test.YtgnlmodaekfhfaaDoorLdG
import Derived.Test.YtgnlmodaekfhfaaDoorLdS
namespace Go.Proofs.YtgnlmodaekfhfaaDoor
open Go.RowKit Go.Shelf Go.Sort

/-- at the head of a round of the deal -/
def DlRel (x : Sk) (N R : Nat) (w wm : World) (i : Nat) (v : Value) (wr : World) : Prop :=
  ∃ ad cd, v = .slice ad (52 - i) cd ∧ 52 - i ≤ cd ∧ Byt wr ad (52 - i) (x.dealN i).deck ∧ (∀ a, ad = some a → N + 1 < a.block ∧ a.block ≠ R) ∧
    Row wr R 29 (arr4 (x.dealN i).h) ∧
    Kept (fun b => b ≠ R) wm wr ∧ Below N w wr

theorem DlRel.step {x : Sk} {N R : Nat} {w wm w10 : World} {k cv : Nat} {av : Option Addr} {h : Nat → Nat} {deck : List Nat} (hn : x.dealN (k + 1) = ⟨h, deck⟩) 
    (hlc : 52 - (k + 1) ≤ cv) (hby : Byt w10 av (52 - (k + 1)) deck) (hab : ∀ a, av = some a → N + 1 < a.block ∧ a.block ≠ R)
    (hr : Row w10 R 29 (arr4 h))
    (hk2 : Kept (fun b => b ≠ R) wm w10) (hb : Below N w w10) : DlRel x N R w wm (k + 1) (.slice av (52 - (k + 1)) cv) w10 := by
  refine ⟨av, cv, rfl, hlc, ?_, hab, ?_, hk2, hb⟩
  · rw [hn]; exact hby
  · rw [hn]; exact hr

theorem size_deal14 : (Tryd.prog.info? 29).map (·.size) = some 4 := by kernel_rfl
set_option maxHeartbeats 2000000 in
set_option maxRecDepth 100000 in
theorem law_Made (x : Sk) (ao : Option Addr) (lo co : Nat) (w : World) (ho : Byt w ao lo x.order) (hsz : x.size < 256) (htr : x.trumps < 256) (hde : x.decl < 256) :
    Calls Tryd.prog 12 #[.agg (x.cells ao lo co)] w fun e w' =>
      e = .returned (.tuple #[.agg (arr4 x.h), .int .u8 ((x.trumps % 5 : Nat) : Int), .int .u8 ((x.decl % 4 : Nat) : Int)]) ∧ Below w.heap.size w w' := by
  obtain ⟨i0, hi, hz0, hz1, hz2⟩ := info_parts info_u8'
  have hao : 0 < lo → ∀ ad, ao = some ad → ad.block < w.heap.size := fun h0 ad h => by obtain ⟨b, off, e, hb, _⟩ := ho.at h0; rw [e] at h; injection h with h; subst h; exact hb
  go_enter Tryd.func12, Tryd.ntmps12
  go_wp2_with fail
  obtain ⟨wa, hwa⟩ : ∃ wa, wa = (w.alloc (.cells (x.cells ao lo co) 24)).alloc (.cells #[.int .u64 0, .int .u64 0, .int .u64 0, .int .u64 0] 29) := ⟨_, rfl⟩
  rw [← hwa]
  have hBa : Below w.heap.size w wa := by rw [hwa]; exact ((Below.refl _ _).alloc (Nat.le_refl _) _).alloc (by simp) _
  have hra : Row wa w.heap.size 24 (x.cells ao lo co) := by rw [hwa]; exact (Row.new _ _ _).alloc _
  have hrb : Row wa (w.heap.size + 1) 29 #[.int .u64 0, .int .u64 0, .int .u64 0, .int .u64 0] := by
    rw [hwa]; have := Row.new (w.alloc (.cells (x.cells ao lo co) 24)) 29 #[.int .u64 0, .int .u64 0, .int .u64 0, .int .u64 0]
    rwa [World.size_alloc] at this
  have hsa : wa.heap.size = w.heap.size + 1 + 1 := by rw [hwa]; simp
  have HSA := Lib.hid hsa
  clear hwa hsa
  go_loopw [5, 10] (fun v i wr => ∃ k : Nat, k ≤ 52 ∧ i = .int .u8 (k : Int) ∧ OwnU wr wa.heap.size v (List.range k) ∧ Below wa.heap.size wa wr) (fun _ i _ => 52 - (intOf i).toNat)
  case atStart => exact ⟨0, by omega, rfl, Owns.nil encU_len _ _, Below.refl _ _⟩
  case round =>
    obtain ⟨k, hk, rfl, how, hB⟩ := hrel
    by_cases hlt : k < 52
    · obtain ⟨av, cv, rfl, -⟩ := how.slice
      have hsz2 := hB.size
      have hln : (List.range k).length = k := List.length_range
      go_wp2_with (at_builtin; (refine wpList_append_own_at _ rfl _ _ 22 rfl wa.heap.size 5 i0 (.int .u8 0) 1 1 Tryd.underlying22 hi hz0 hz1 hz2 rfl (by decide) _ _ _ rfl (how.2.alloc _) ⟨wr.heap.size, 0, none⟩ 1 1 [.int .u8 (k : Int)] rfl rfl (cell_one_new _ _ _) (by simp [Value.oneCell']) (by unfold maxLen; omega) (by omega) (by simp; omega) ?_); intro v' w3 hown' hgrow _ hloc)
      go_roundw
      case rel =>
        refine ⟨k + 1, by omega, by go_num, ⟨encU_len, ?_⟩, (hB.alloc hsz2 _).grown hgrow (by simp; omega) (fun g e => (World.ownsRow.lt how.2 g e).1)⟩
        rw [List.range_succ]
        simpa using hown'
      case measure => simp [intOf]; omega
    · have hke : k = 52 := by omega
      subst hke
      generalize wr = wb at *
      have ra := hra.below hra.lt hB
      have rb := hrb.below hrb.lt hB
      have hBb := hBa.trans (hB.mono (by have := HSA.out; omega))
      have s0 := (ra.alloc (.cells #[.int .u64 0, .int .u64 0, .int .u64 0, .int .u64 0] 29)).cell 0
      simp only [List.getElem?_toArray, List.getElem?_cons_zero] at s0
      have hn5 : (x.size : Int).tmod 5 = ((x.size % 5 : Nat) : Int) := by rw [Int.tmod_eq_emod_of_nonneg (by omega)]; omega
      have hnI2 : 4 * (1 + (x.size : Int) % 5) = ((4 * x.n : Nat) : Int) := by unfold Sk.n; omega
      go_wp2_with fail
      obtain ⟨wm, hwm⟩ : ∃ wm, wm = wb.alloc (.cells #[.int .u64 0, .int .u64 0, .int .u64 0, .int .u64 0] 29) := ⟨_, rfl⟩
      rw [← hwm]
      clear s0 hn5 hnI2
      have hBm : Below wb.heap.size wb wm := by rw [hwm]; exact (Below.refl _ _).alloc (Nat.le_refl _) _
      have ra := ra.below ra.lt hBm
      have rb := rb.below rb.lt hBm
      have rr : Row wm wb.heap.size 29 (arr4 (fun _ => 0)) := by rw [hwm]; exact Row.new _ _ _
      have hbN : w.heap.size + 1 < wb.heap.size := by have := HSA.out; have := hB.size; omega
      have hBm0 := hBb.trans (hBm.mono (by omega))
      obtain ⟨av, cv, hve, hnil, hlc, hmx, hab, hbv⟩ := how.byt (by simp) (fun i => getD_lt (by omega) (fun c hc => by have := List.mem_range.1 hc; omega) i)
      subst hve
      rw [List.length_range] at hlc hbv
      have hbm := hbv.below (Nat.le_refl _) hBm
      have hn6 : x.n ≤ 5 := by unfold Sk.n; omega
      rw [show ((52 : Nat) : Int) = 52 from rfl]
      have HAB : Hid (∀ ad, av = some ad → w.heap.size + 1 < ad.block ∧ ad.block < wb.heap.size) := fun ad h => by have h1 := hab ad h; have := HSA.out; omega
      have hom := ho.below (Nat.le_refl _) hBm0
      clear how hab hbv hnil hBb hB hra hrb hBa hBm hwm
      generalize hnn : x.n = n at *
      have HNN := Lib.hid hnn
      clear hnn
      go_loopw [5, 24] (fun v i wr => ∃ k : Nat, k ≤ 4 * n ∧ i = .int .i64 (k : Int) ∧ DlRel x w.heap.size wb.heap.size w wm k v wr) (fun _ i _ => 4 * n - (intOf i).toNat)
      case atStart =>
        refine ⟨0, by omega, rfl, av, cv, by simp, hlc, hbm, fun ad h => ?_, rr, Kept.refl _ _, hBm0⟩
        have := HAB.out ad h; omega
      case round =>
        obtain ⟨k, hk, rfl, ad, cd, rfl, hcd, hby, hadb, hrr, hkp, hbl⟩ := hrel
        by_cases hlt : k < 4 * n
        · obtain ⟨L, hL⟩ : ∃ L, L = 52 - k := ⟨_, rfl⟩
          have hL0 : 0 < L := by omega
          have hL52 : L ≤ 52 := by omega
          have hwh := dealN_w64 x k
          have hdl := dealN_len x k (by omega)
          have hdt := dealN_lt x k
          have hNX := Lib.hid (show x.dealN (k + 1) = (x.dealN k).next x k from rfl)
          unfold DlRel
          generalize x.dealN k = s at *
          rw [← hL] at hby hcd hdl ⊢
          have HL := Lib.hid hL
          clear hL
          unfold DlS.next at hNX
          rw [hdl] at hNX
          have hRa := ra.kept (by omega) hkp
          have hom2 := hom.keptP (fun h0 ad h => by have := hao h0 ad h; omega) hkp
          have o4 := hRa.cell 3
          simp at o4
          rcases (show lo = 0 ∨ 0 < lo by omega) with hlo | hlo
          case inl =>
            have hX : x.at k = 7 * k := by unfold Sk.at; rw [if_pos (List.eq_nil_of_length_eq_zero (ho.length.trans hlo))]
            subst hlo
            go_upto_region 14 with fail
            rw [show (7 * (k : Int)) = ((x.at k : Nat) : Int) by omega]
            have hbyd := hby
            have hrrd := hrr
            have hkpd := hkp
            have hbld := hbl
            clear hby hrr hkp hbl
            clear hX
            generalize x.at k = X at *
            have hjlt : X % L < L := Nat.mod_lt _ hL0
            have hje : (X : Int) % (L : Int) = ((X % L : Nat) : Int) := by push_cast; rfl
            have hje0 : (0 : Int) ≤ (X : Int) % (L : Int) := by rw [hje]; omega
            go_upto_region 15 with fail
            rw [hje]
            clear hje hje0
            obtain ⟨b, off, rfl, hbs, hcs⟩ := hbyd.at hL0
            have hbb := hadb _ rfl
            dsimp only at hbb
            generalize X % L = j at *
            have hct := hcs j hjlt
            have hc52 : s.deck.getD j 0 < 52 := hdt _ (getD_mem_of_lt (by omega))
            have hk4 : k % 4 < 4 := Nat.mod_lt _ (by omega)
            have hm := (hrrd.cell (k % 4)).trans (arr4_get s.h _ hk4)
            have hf := hrrd.frozen (k % 4)
            have hwk := hwh (k % 4)
            clear hcs
            generalize hc : s.deck.getD j 0 = c at *
            have HC := Lib.hid hc
            clear hc
            go_region
            go_upto_region 16 with fail
            have r5 := hrrd.set (k % 4) (.int .u64 ((lor (s.h (k % 4)) (shl1 c) : Nat) : Int))
            rw [arr4_set _ _ _ hk4] at r5
            have r6 : Row ((wr.setCell ⟨wb.heap.size, k % 4, none⟩ (.int .u64 ((lor (s.h (k % 4)) (shl1 c) : Nat) : Int))).drew) wb.heap.size 29 _ := r5
            have k6 : Kept (fun b => b ≠ wb.heap.size) wr ((wr.setCell ⟨wb.heap.size, k % 4, none⟩ (.int .u64 ((lor (s.h (k % 4)) (shl1 c) : Nat) : Int))).drew) := ((Kept.refl _ _).setCell (by simp) _).drew
            have b6 : Below w.heap.size w ((wr.setCell ⟨wb.heap.size, k % 4, none⟩ (.int .u64 ((lor (s.h (k % 4)) (shl1 c) : Nat) : Int))).drew) := (hbld.setCell (by simp; omega) _).drew
            generalize ((wr.setCell ⟨wb.heap.size, k % 4, none⟩ (.int .u64 ((lor (s.h (k % 4)) (shl1 c) : Nat) : Int))).drew) = we at *
            clear r5 hm hf hct
            have by5 := hbyd.kept (fun ad h => (hadb ad h).2) k6
            have kk5 := hkpd.trans k6
            clear hbyd hrrd hkpd hbld k6
            have hA := head_run b off L cd j (by omega)
            obtain ⟨a2, hB2, by6, hlk2⟩ := cut_run (some ⟨b, off, none⟩) L cd (j + 1) s.deck we (by omega) hcd by5
            rw [show ((j + 1 : Nat) : Int) = (j : Int) + 1 by omega] at hB2
            have ewj : IntKind.i64.wrap ((j : Int) + 1) = (j : Int) + 1 := by rw [IntKind.wrap_i64]; omega
            refine wp_region_below_tail 8 (by kernel_rfl) (by kernel_rfl) ?_
            simp only [List.take_succ_cons, List.take_zero, List.drop_succ_cons, List.drop_zero]
            repeat (quiet_step (fail))
            refine wpQuiet_nil ?_
            rintro _ ⟨p', rfl⟩
            clear hA hB2 ewj
            have hb10 := below_regrown we p'.d p'.os
            generalize grow (redrawn we p'.d) p'.os = w10 at *
            have r7 := r6.below r6.lt hb10
            have by7 := by5.below (Nat.le_refl _) hb10
            have by8 := by6.below (Nat.le_refl _) hb10
            have kk7 := kk5.trans (Kept.of_below hb10)
            have b7 := b6.trans (hb10.mono b6.size)
            clear r6 by5 by6 kk5 b6 hb10
            have hn1 := hNX.out
            have hk52 : 52 - (k + 1) = j + (L - (j + 1)) := by have := HL.out; omega
            obtain ⟨b', off', he, hbs', hcs'⟩ := by7.at hL0
            obtain ⟨rfl, rfl⟩ : b' = b ∧ off' = off := by injection he with he; injection he with h1 h2 h3; exact ⟨h1.symm, h2.symm⟩
            clear he
            by_cases hjL : j + 1 < L
            · obtain ⟨b2, off2, rfl, hbs2, hcs2⟩ := by8.at (by omega)
              go_wp2_with (at_builtin; go_loud (refine wpList_append_grows w10 rfl (.tmp 63) (.tmp 67) 22 rfl 5 i0 (.int .u8 0) 1 1 Tryd.underlying22 hi hz0 hz1 hz2 rfl (by decide) (some ⟨b', off', none⟩) j j ((s.deck.take j).map fun z : Nat => .int .u8 (z : Int)) rfl (fun h => by cases h) (by simp; omega) (fun ad h => by injection h with h; subst h; exact u8_cells (len := j) (fun i hi => by rw [hcs' i (by omega), List.getD_eq_getElem?_getD, List.getD_eq_getElem?_getD, List.getElem?_take_of_lt hi]) (by simp; omega)) ⟨b2, off2, none⟩ (L - (j + 1)) (cd - (j + 1)) ((s.deck.drop (j + 1)).map fun z : Nat => .int .u8 (z : Int)) rfl (by simp; omega) (u8_cells hcs2 (by simp; omega)) (fun u hu => by obtain ⟨z, -, rfl⟩ := List.mem_map.1 hu; rfl) (by omega) (by unfold maxLen; omega) (by omega) ?_); intro v' w11 hown hgr)
              have ho11 : OwnU w11 w10.heap.size v' (s.deck.take j ++ s.deck.drop (j + 1)) := ⟨encU_len, by simpa [List.flatMap_append, flatU_map, List.length_take, List.length_drop, hdl, Nat.min_eq_left (Nat.le_of_lt hjlt)] using hown⟩
              obtain ⟨a11, c11, rfl, -, hlc11, hmx11, hab11, hby11⟩ := ho11.byt (by simp; omega) (fun i => getD_lt (by omega) (fun z hz => by rcases List.mem_append.1 hz with h | h; exact Nat.lt_trans (hdt z (List.mem_of_mem_take h)) (by omega); exact Nat.lt_trans (hdt z (List.mem_of_mem_drop h)) (by omega)) i)
              have hl11 : (s.deck.take j ++ s.deck.drop (j + 1)).length = 52 - (k + 1) := by simp; omega
              rw [hl11] at hlc11 hby11
              have hg11 : Below w10.heap.size w10 w11 := ⟨hgr.os, hgr.tape, hgr.output, hgr.size, fun i hi => hgr.block i hi (by simp)⟩
              have h10R := r7.lt
              have hP := DlRel.step hn1 hlc11 hby11 (fun ad h => by have := (hab11 ad h).1; omega) (r7.below r7.lt hg11) (kk7.trans (Kept.of_below hg11)) (b7.trans (hg11.mono b7.size))
              rw [hl11]
              go_wp2
              go_roundw
              case rel => exact ⟨k + 1, by omega, by go_num, hP⟩
              case measure => simp [intOf]; omega
            · have h0 : L - (j + 1) = 0 := by omega
              rw [h0]
              have HJJ := Lib.hid (show j = 52 - (k + 1) by omega)
              go_wp2_with (at_builtin; go_loud (refine wpList_append_nothing rfl (.tmp 63) (.tmp 67) 22 rfl 5 i0 Tryd.underlying22 hi (some ⟨b', off', none⟩) j j (Nat.le_refl _) rfl _ rfl (src_empty Tryd.underlying22 a2 _ _) ?_))
              have hP : DlRel x w.heap.size wb.heap.size w wm (k + 1) (.slice (some ⟨b', off', none⟩) j j) w10 := by
                have h1 : Byt w10 (some ⟨b', off', none⟩) (52 - (k + 1)) (s.deck.take j ++ s.deck.drop (j + 1)) := by
                  have hd0 : s.deck.drop (j + 1) = [] := List.drop_eq_nil_of_le (by omega)
                  rw [hd0, List.append_nil, ← HJJ.out]
                  refine ⟨by simp; omega, by omega, fun i => getD_lt (by omega) (fun z hz => Nat.lt_trans (hdt z (List.mem_of_mem_take hz)) (by omega)) i, .inr ⟨b', off', rfl, hbs', fun i hi => ?_⟩⟩
                  rw [hcs' i (by omega), List.getD_eq_getElem?_getD, List.getD_eq_getElem?_getD, List.getElem?_take_of_lt hi]
                have h2 := DlRel.step (cv := j) hn1 (by rw [← HJJ.out]; omega) h1 (fun ad h => by injection h with h; subst h; exact hbb) r7 kk7 b7
                rwa [← HJJ.out] at h2
              exact ⟨⟨k + 1, by omega, by go_num, hP⟩, by simp [intOf]; omega⟩
          case inr =>
            have hX : x.at k = x.order.getD (k % lo) 0 + k := by unfold Sk.at; rw [ho.length, if_neg (fun h => by rw [← ho.length, h] at hlo; simp at hlo)]
            obtain ⟨b1, off1, rfl, hb1, hcs1⟩ := hom2.at hlo
            have hmod : k % lo < lo := Nat.mod_lt _ hlo
            have hc1 := hcs1 _ hmod
            have hby1 := hom2.byte (k % lo)
            clear hcs1
            generalize x.order.getD (k % lo) 0 = z at *
            go_upto_region 13 with fail
            go_region
            go_upto_region 14 with fail
            rw [show ((z : Int) + (k : Int)) = ((x.at k : Nat) : Int) by omega]
            have hbyd := hby.below (Nat.le_refl _) (Below.refl _ wr).drew
            have hrrd := hrr.below hrr.lt (Below.refl _ wr).drew
            have hkpd := hkp.drew
            have hbld := hbl.drew
            clear hby hrr hkp hbl
            generalize wr.drew = wr' at *
            clear hX
            generalize x.at k = X at *
            have hjlt : X % L < L := Nat.mod_lt _ hL0
            have hje : (X : Int) % (L : Int) = ((X % L : Nat) : Int) := by push_cast; rfl
            have hje0 : (0 : Int) ≤ (X : Int) % (L : Int) := by rw [hje]; omega
            go_upto_region 15 with fail
            rw [hje]
            clear hje hje0
            obtain ⟨b, off, rfl, hbs, hcs⟩ := hbyd.at hL0
            have hbb := hadb _ rfl
            dsimp only at hbb
            generalize X % L = j at *
            have hct := hcs j hjlt
            have hc52 : s.deck.getD j 0 < 52 := hdt _ (getD_mem_of_lt (by omega))
            have hk4 : k % 4 < 4 := Nat.mod_lt _ (by omega)
            have hm := (hrrd.cell (k % 4)).trans (arr4_get s.h _ hk4)
            have hf := hrrd.frozen (k % 4)
            have hwk := hwh (k % 4)
            clear hcs
            generalize hc : s.deck.getD j 0 = c at *
            have HC := Lib.hid hc
            clear hc
            go_region
            go_upto_region 16 with fail
            have r5 := hrrd.set (k % 4) (.int .u64 ((lor (s.h (k % 4)) (shl1 c) : Nat) : Int))
            rw [arr4_set _ _ _ hk4] at r5
            have r6 : Row ((wr'.setCell ⟨wb.heap.size, k % 4, none⟩ (.int .u64 ((lor (s.h (k % 4)) (shl1 c) : Nat) : Int))).drew) wb.heap.size 29 _ := r5
            have k6 : Kept (fun b => b ≠ wb.heap.size) wr' ((wr'.setCell ⟨wb.heap.size, k % 4, none⟩ (.int .u64 ((lor (s.h (k % 4)) (shl1 c) : Nat) : Int))).drew) := ((Kept.refl _ _).setCell (by simp) _).drew
            have b6 : Below w.heap.size w ((wr'.setCell ⟨wb.heap.size, k % 4, none⟩ (.int .u64 ((lor (s.h (k % 4)) (shl1 c) : Nat) : Int))).drew) := (hbld.setCell (by simp; omega) _).drew
            generalize ((wr'.setCell ⟨wb.heap.size, k % 4, none⟩ (.int .u64 ((lor (s.h (k % 4)) (shl1 c) : Nat) : Int))).drew) = we at *
            clear r5 hm hf hct
            have by5 := hbyd.kept (fun ad h => (hadb ad h).2) k6
            have kk5 := hkpd.trans k6
            clear hbyd hrrd hkpd hbld k6
            have hA := head_run b off L cd j (by omega)
            obtain ⟨a2, hB2, by6, hlk2⟩ := cut_run (some ⟨b, off, none⟩) L cd (j + 1) s.deck we (by omega) hcd by5
            rw [show ((j + 1 : Nat) : Int) = (j : Int) + 1 by omega] at hB2
            have ewj : IntKind.i64.wrap ((j : Int) + 1) = (j : Int) + 1 := by rw [IntKind.wrap_i64]; omega
            refine wp_region_below_tail 8 (by kernel_rfl) (by kernel_rfl) ?_
            simp only [List.take_succ_cons, List.take_zero, List.drop_succ_cons, List.drop_zero]
            repeat (quiet_step (fail))
            refine wpQuiet_nil ?_
            rintro _ ⟨p', rfl⟩
            clear hA hB2 ewj
            have hb10 := below_regrown we p'.d p'.os
            generalize grow (redrawn we p'.d) p'.os = w10 at *
            have r7 := r6.below r6.lt hb10
            have by7 := by5.below (Nat.le_refl _) hb10
            have by8 := by6.below (Nat.le_refl _) hb10
            have kk7 := kk5.trans (Kept.of_below hb10)
            have b7 := b6.trans (hb10.mono b6.size)
            clear r6 by5 by6 kk5 b6 hb10
            have hn1 := hNX.out
            have hk52 : 52 - (k + 1) = j + (L - (j + 1)) := by have := HL.out; omega
            obtain ⟨b', off', he, hbs', hcs'⟩ := by7.at hL0
            obtain ⟨rfl, rfl⟩ : b' = b ∧ off' = off := by injection he with he; injection he with h1 h2 h3; exact ⟨h1.symm, h2.symm⟩
            clear he
            by_cases hjL : j + 1 < L
            · obtain ⟨b2, off2, rfl, hbs2, hcs2⟩ := by8.at (by omega)
              go_wp2_with (at_builtin; go_loud (refine wpList_append_grows w10 rfl (.tmp 63) (.tmp 67) 22 rfl 5 i0 (.int .u8 0) 1 1 Tryd.underlying22 hi hz0 hz1 hz2 rfl (by decide) (some ⟨b', off', none⟩) j j ((s.deck.take j).map fun z : Nat => .int .u8 (z : Int)) rfl (fun h => by cases h) (by simp; omega) (fun ad h => by injection h with h; subst h; exact u8_cells (len := j) (fun i hi => by rw [hcs' i (by omega), List.getD_eq_getElem?_getD, List.getD_eq_getElem?_getD, List.getElem?_take_of_lt hi]) (by simp; omega)) ⟨b2, off2, none⟩ (L - (j + 1)) (cd - (j + 1)) ((s.deck.drop (j + 1)).map fun z : Nat => .int .u8 (z : Int)) rfl (by simp; omega) (u8_cells hcs2 (by simp; omega)) (fun u hu => by obtain ⟨z, -, rfl⟩ := List.mem_map.1 hu; rfl) (by omega) (by unfold maxLen; omega) (by omega) ?_); intro v' w11 hown hgr)
              have ho11 : OwnU w11 w10.heap.size v' (s.deck.take j ++ s.deck.drop (j + 1)) := ⟨encU_len, by simpa [List.flatMap_append, flatU_map, List.length_take, List.length_drop, hdl, Nat.min_eq_left (Nat.le_of_lt hjlt)] using hown⟩
              obtain ⟨a11, c11, rfl, -, hlc11, hmx11, hab11, hby11⟩ := ho11.byt (by simp; omega) (fun i => getD_lt (by omega) (fun z hz => by rcases List.mem_append.1 hz with h | h; exact Nat.lt_trans (hdt z (List.mem_of_mem_take h)) (by omega); exact Nat.lt_trans (hdt z (List.mem_of_mem_drop h)) (by omega)) i)
              have hl11 : (s.deck.take j ++ s.deck.drop (j + 1)).length = 52 - (k + 1) := by simp; omega
              rw [hl11] at hlc11 hby11
              have hg11 : Below w10.heap.size w10 w11 := ⟨hgr.os, hgr.tape, hgr.output, hgr.size, fun i hi => hgr.block i hi (by simp)⟩
              have h10R := r7.lt
              have hP := DlRel.step hn1 hlc11 hby11 (fun ad h => by have := (hab11 ad h).1; omega) (r7.below r7.lt hg11) (kk7.trans (Kept.of_below hg11)) (b7.trans (hg11.mono b7.size))
              rw [hl11]
              go_wp2
              go_roundw
              case rel => exact ⟨k + 1, by omega, by go_num, hP⟩
              case measure => simp [intOf]; omega
            · have h0 : L - (j + 1) = 0 := by omega
              rw [h0]
              have HJJ := Lib.hid (show j = 52 - (k + 1) by omega)
              go_wp2_with (at_builtin; go_loud (refine wpList_append_nothing rfl (.tmp 63) (.tmp 67) 22 rfl 5 i0 Tryd.underlying22 hi (some ⟨b', off', none⟩) j j (Nat.le_refl _) rfl _ rfl (src_empty Tryd.underlying22 a2 _ _) ?_))
              have hP : DlRel x w.heap.size wb.heap.size w wm (k + 1) (.slice (some ⟨b', off', none⟩) j j) w10 := by
                have h1 : Byt w10 (some ⟨b', off', none⟩) (52 - (k + 1)) (s.deck.take j ++ s.deck.drop (j + 1)) := by
                  have hd0 : s.deck.drop (j + 1) = [] := List.drop_eq_nil_of_le (by omega)
                  rw [hd0, List.append_nil, ← HJJ.out]
                  refine ⟨by simp; omega, by omega, fun i => getD_lt (by omega) (fun z hz => Nat.lt_trans (hdt z (List.mem_of_mem_take hz)) (by omega)) i, .inr ⟨b', off', rfl, hbs', fun i hi => ?_⟩⟩
                  rw [hcs' i (by omega), List.getD_eq_getElem?_getD, List.getD_eq_getElem?_getD, List.getElem?_take_of_lt hi]
                have h2 := DlRel.step (cv := j) hn1 (by rw [← HJJ.out]; omega) h1 (fun ad h => by injection h with h; subst h; exact hbb) r7 kk7 b7
                rwa [← HJJ.out] at h2
              exact ⟨⟨k + 1, by omega, by go_num, hP⟩, by simp [intOf]; omega⟩
        · have hke : k = 4 * n := by omega
          subst hke
          have hRa := ra.kept (by omega) hkp
          have hRb := rb.kept (by omega) hkp
          have HH := Lib.hid (show x.h = (x.dealN (4 * n)).h by unfold Sk.h; rw [HNN.out])
          generalize (x.dealN (4 * n)).h = hd at *
          have s1 := hRa.cell 1
          have s2 := hRa.cell 2
          simp only [List.getElem?_toArray, List.getElem?_cons_zero, List.getElem?_cons_succ] at s1 s2
          have rs1 := fun dd os => cell_regrown s1 dd os
          have rs2 := fun dd os => cell_regrown s2 dd os
          obtain ⟨tm, htm⟩ : ∃ tm, tm = x.trumps % 5 := ⟨_, rfl⟩
          obtain ⟨dc, hdc⟩ : ∃ dc, dc = x.decl % 4 := ⟨_, rfl⟩
          have e1 : ((x.trumps : Int)).tmod 5 = (tm : Int) := by rw [Int.tmod_eq_emod_of_nonneg (by omega)]; omega
          have e2 : ((x.decl : Int)).tmod 4 = (dc : Int) := by rw [Int.tmod_eq_emod_of_nonneg (by omega)]; omega
          have e3 : IntKind.u8.wrap (tm : Int) = (tm : Int) := by rw [IntKind.wrap_u8]; omega
          have e4 : IntKind.u8.wrap (dc : Int) = (dc : Int) := by rw [IntKind.wrap_u8]; omega
          have HTM := Lib.hid htm
          have HDC := Lib.hid hdc
          clear htm hdc
          have d0 := hrr.cell 0
          have d1 := hrr.cell 1
          have d2 := hrr.cell 2
          have d3 := hrr.cell 3
          have x0 := hRb.cell 0
          have x1 := hRb.cell 1
          have x2 := hRb.cell 2
          have x3 := hRb.cell 3
          have y0 := hRb.frozen 0
          have y1 := hRb.frozen 1
          have y2 := hRb.frozen 2
          have y3 := hRb.frozen 3
          simp only [List.getElem?_toArray, List.getElem?_cons_zero, List.getElem?_cons_succ] at d0 d1 d2 d3 x0 x1 x2 x3
          go_upto_region 18 with fail
          go_region
          go_wp2_with fail
          rw [HH.out, ← HTM.out, ← HDC.out]
          refine bodyPost_ret (v := .tuple #[.agg (arr4 hd), .int .u8 (tm : Int), .int .u8 (dc : Int)]) (by simp [results, Tryd.results12, go_sem, x0, x1, x2, x3]) rfl ⟨rfl, ?_⟩
          exact (((((hbl.setCell (by simp) _).setCell (by simp) _).setCell (by simp) _).setCell (by simp) _)).drew
end Go.Proofs.YtgnlmodaekfhfaaDoor
