/- finesselaw14.tells over this seat's program. -/
import Derived.Test.YtgnlmodaekfhfaaDoorMLfl
import Derived.Test.YtgnlmodaekfhfaaDoorLfK
namespace Go.Proofs.YtgnlmodaekfhfaaDoor
open Go.RowKit Go.Shelf Go.Sort

attribute [-go_sem] run_equalIn_agg run_eql_struct
theorem kept_setRow {w : World} {b : Nat} (v : Array Value) : Kept (fun k => k ≠ b) w (w.setRow b v) :=
  ⟨rfl, rfl, rfl, by show _ ≤ (w.heap.modify b _).size; rw [Array.size_modify]; exact Nat.le_refl _, fun k hk _ => by
    show (w.heap.modify b _)[k]? = _
    rw [Array.getElem?_modify, if_neg (Ne.symm hk)]⟩
/-- while a step is done and its state put down -/
def TlS14 (w : World) (B bS : Nat) (s t : St) (SA SB : Array Value) (vs _us : List Value) (W : World) : Prop := Below w.heap.size w W ∧ match vs with
  | [] => TblAt W B s ∧ Row W bS 80 SA
  | [x] => x = .tuple #[.agg SB, .bool true] ∧ TblAt W B t ∧ Row W bS 80 SA
  | [x, _] => x = .tuple #[.agg SB, .bool true] ∧ TblAt W B t ∧ Row W bS 80 SB
  | _ => False
theorem TlS14.val {w : World} {B bS : Nat} {s t : St} {SA SB : Array Value} {vs us : List Value} {W : World} (h : TlS14 w B bS s t SA SB vs us W) {v : Value} (hv : vs[0]? = some v) : v = .tuple #[.agg SB, .bool true] := by
  obtain ⟨h1, h2⟩ := h
  match vs, h2, hv with
  | [x], h2, hv => exact (Option.some.inj (show some x = some v from hv)).symm.trans h2.1
  | [x, _], h2, hv => exact (Option.some.inj (show some x = some v from hv)).symm.trans h2.1
set_option maxHeartbeats 4000000 in
set_option maxRecDepth 10000 in
theorem law_tells14 (d : Nat → Nat) (hd : ∀ i, W64 (d i)) (tm dc : Nat) (htm : tm < 256) (hdc : dc < 256) (al : Option Addr) (ll cl : Nat) (zs : List AcT) (w : World) (hzl : Acts w al ll zs) (hT : Tab w) :
    Calls Tryd.prog 24 #[.agg #[.int .u64 (d 0 : Int), .int .u64 (d 1 : Int), .int .u64 (d 2 : Int), .int .u64 (d 3 : Int)], .int .u8 (tm : Int), .int .u8 (dc : Int), .slice al ll cl] w fun e w' => e = .returned (.bool true) ∧ Below w.heap.size w w' := by
  have HT0 := Lib.hid hT
  have HAC := Lib.hid hzl
  have HNW := Lib.hid (fun W => ld_New d hd tm dc htm hdc W)
  have HLN := Lib.hid (fun t er (he : newV d tm dc = (t, er)) W => lf_New d hd tm dc htm hdc he W)
  obtain ⟨DA, hDA⟩ : ∃ DA, DA = arr4 d := ⟨_, rfl⟩
  have HDZ : Hid ((Tryd.prog.info? 29).map (·.size) = some DA.size) := Lib.hid (by rw [hDA]; exact size_deal14)
  have hda : #[.int .u64 (d 0 : Int), .int .u64 (d 1 : Int), .int .u64 (d 2 : Int), .int .u64 (d 3 : Int)] = DA := hDA.symm
  rw [hda] at HNW HLN ⊢
  clear hda hDA
  have hlen := hzl.length
  have hsmall := hzl.small
  clear hzl hT
  have hB0 := (Below.refl w.heap.size w).alloc (Nat.le_refl _) (.cells DA 29)
  have hD0 : Row (w.alloc (.cells DA 29)) w.heap.size 29 DA := Row.new _ _ _
  go_enter Tryd.func24, Tryd.ntmps24
  go_upto_region 1 with fail
  generalize w.alloc (.cells DA 29) = w1 at *
  obtain ⟨bD, hbD⟩ : ∃ b, w.heap.size = b := ⟨_, rfl⟩
  rw [hbD] at hD0 ⊢
  have HBD := Lib.hid hbD
  clear hbD
  by_cases h120 : 120 < ll
  · have h120I : (120 : Int) < (ll : Int) := by omega
    go_wp2_with fail
    go_ret
    exact ⟨rfl, hB0⟩
  have h120I : ¬ (120 : Int) < (ll : Int) := by omega
  go_upto_region 3 with fail
  go_wp2_with (refine wpList_load_row rfl 29 (.tmp 4) rfl bD rfl 29 DA (0, 0) _ hD0 Tryd.underlying29 rfl HDZ.out ?_)
  refine (HNW.out w1).mono ?_
  rintro e w2 ⟨hb2, h2⟩
  have hB2 := hB0.trans (hb2.mono hB0.size)
  have hD2 := hD0.below hD0.lt hb2
  rcases h2 with ⟨hok, rfl⟩ | ⟨hok, B, rfl, hBB, hA2⟩
  · have hn : newV d tm dc = (St.zero, 140) := by unfold newV; rw [hok]; rfl
    have HLN2 := Lib.hid (fun W => HLN.out _ _ hn W)
    clear hok hn hb2 hD0 hB0
    go_upto_region 4 with fail
    go_wp2_with (refine wpList_load_row rfl 29 (.tmp 4) rfl bD rfl 29 DA (0, 0) _ hD2 Tryd.underlying29 rfl HDZ.out ?_)
    refine (HLN2.out w2).mono ?_
    rintro e w3 ⟨SB, ⟨hSB, rfl⟩, hb3⟩
    have hB3 := hB2.trans (hb3.mono hB2.size)
    have HZB : Hid ((Tryd.prog.info? 80).map (·.size) = some SB.size ∧ SB.size = 24 ∧ SB.all (·.oneCell') = true) := Lib.hid (by rw [hSB]; exact ⟨size_rst, rfl, one_cells _⟩)
    clear hSB hD2 hB2 hb3
    go_upto_region 5 with (refine wpList_store_row rfl 80 (.tmp 11) (.tmp 30) rfl w3.heap.size SB rfl rfl 80 _ (Row.new _ _ _) HZB.out.1 (by rw [HZB.out.2.1]; rfl) HZB.out.2.2 ?_)
    have hb4 := below_setRow ((Below.refl w3.heap.size w3).alloc (Nat.le_refl _) (.cells zst 80)) (Nat.le_refl _) SB
    have hB4 := hB3.trans (hb4.mono hB3.size)
    change Code.wp _ _ _ _ ((w3.alloc (.cells zst 80)).setRow w3.heap.size SB)
    generalize (w3.alloc (.cells zst 80)).setRow w3.heap.size SB = w4 at *
    clear hb4 hB3
    go_wp2_with fail
    go_ret
    exact ⟨rfl, hB4⟩
  · have hk := hok
    unfold newOk at hk
    rw [Bool.and_eq_true, Bool.and_eq_true, decide_eq_true_eq, decide_eq_true_eq] at hk
    have HD := Lib.hid (dealt_deal hk.1)
    have hi0 := SInv.new HD.out (tm := tm) (dc := dc) hk.2.1 (by have := hk.2.2; omega)
    have hn : newV d tm dc = (St.new d tm dc, 0) := by unfold newV; rw [hok]; rfl
    have HLN2 := Lib.hid (fun W => HLN.out _ _ hn W)
    generalize pop (d 0) = n at *
    obtain ⟨S0, hS0⟩ : ∃ s, St.new d tm dc = s := ⟨_, rfl⟩
    rw [hS0] at HLN2 hi0 hA2
    have HBN : Hid (w.heap.size ≤ B) := Lib.hid (Nat.le_trans hB0.size hBB)
    clear hok hn hk hS0 hD0 hB0 hb2 hBB
    go_upto_region 4 with fail
    go_wp2_with (refine wpList_load_row rfl 29 (.tmp 4) rfl bD rfl 29 DA (0, 0) _ hD2 Tryd.underlying29 rfl HDZ.out ?_)
    refine (HLN2.out w2).mono ?_
    rintro e w3 ⟨SA, ⟨hSA, rfl⟩, hb3⟩
    have hB3 := hB2.trans (hb3.mono hB2.size)
    have HZ : Hid ((Tryd.prog.info? 80).map (·.size) = some SA.size ∧ SA.size = 24 ∧ SA.all (·.oneCell') = true) := Lib.hid (by rw [hSA]; exact ⟨size_rst, rfl, one_cells _⟩)
    have hA3 := hA2.below hA2.lt hb3
    have HSA0 := Lib.hid hSA
    clear hSA hD2 hB2 hb3
    go_upto_region 5 with (refine wpList_store_row rfl 80 (.tmp 11) (.tmp 30) rfl w3.heap.size SA rfl rfl 80 _ (Row.new _ _ _) HZ.out.1 (by rw [HZ.out.2.1]; rfl) HZ.out.2.2 ?_)
    have hb4 := below_setRow ((Below.refl w3.heap.size w3).alloc (Nat.le_refl _) (.cells zst 80)) (Nat.le_refl _) SA
    have hB4 := hB3.trans (hb4.mono hB3.size)
    have hA4 := hA3.below hA3.lt hb4
    have hS4 : Row ((w3.alloc (.cells zst 80)).setRow w3.heap.size SA) w3.heap.size 80 SA := setRow_heap _ _ _ _ _ _ (Row.new _ _ _)
    have HBB : Hid (w.heap.size ≤ B ∧ w3.heap.size ≠ B ∧ w.heap.size ≤ w3.heap.size) := Lib.hid ⟨HBN.out, Nat.ne_of_gt hA3.lt, hB3.size⟩
    change Code.wp _ _ _ _ ((w3.alloc (.cells zst 80)).setRow w3.heap.size SA)
    generalize (w3.alloc (.cells zst 80)).setRow w3.heap.size SA = w4 at *
    obtain ⟨bS, hbS⟩ : ∃ b, w3.heap.size = b := ⟨_, rfl⟩
    rw [hbS] at hS4 HBB ⊢
    clear hb4 hB3 hA3 hA2 hbS
    have HS4 := Lib.hid hS4
    have HA4 := Lib.hid hA4
    have HB4 := Lib.hid hB4
    have HI0 := Lib.hid hi0
    clear hS4 hA4 hB4 hi0
    go_upto_region 9 with fail
    have hS4 := HS4.out
    go_wp2_with (refine wpList_load_row rfl 80 (.tmp 11) rfl bS rfl 80 SA (0, 0) _ hS4 Tryd.underlying80 rfl HZ.out.1 ?_)
    refine (law_agrees HD.out HI0.out HA4.out (HT0.out.below HT0.out.pos HB4.out) HSA0.out).mono ?_
    rintro e w5 ⟨rfl, hb5⟩
    have HB5 := Lib.hid (HB4.out.trans (hb5.mono HB4.out.size))
    have HA5 := Lib.hid (HA4.out.below HA4.out.lt hb5)
    have HS5 := Lib.hid (HS4.out.below HS4.out.lt hb5)
    clear hb5 hS4
    go_wp2_with fail
    go_loopw [13, 14] (fun x i wr => ∃ (k : Nat) (s : St), k ≤ ll ∧ i = .int .i64 (k : Int) ∧ x = .bool true ∧ SInv d n s ∧ TblAt wr B s ∧ (∃ SC : Array Value, SC = s.cells ∧ Row wr bS 80 SC) ∧ Below w.heap.size w wr) (fun _ i _ => ll - (intOf i).toNat)
    case atStart => exact ⟨0, S0, by omega, rfl, rfl, HI0.out, HA5.out, ⟨SA, HSA0.out, HS5.out⟩, HB5.out⟩
    case round =>
      clear HS4 HA4 HB4 HB5 HA5 HS5 HZ HSA0 HI0 HNW HLN HLN2 HDZ HBD
      obtain ⟨k, s, hk, rfl, rfl, hi, hA, ⟨SA, hSA, hS⟩, hB⟩ := hrel
      by_cases hlt : k < ll
      · have hkl : k < zs.length := by omega
        have hak : zs[k]? = some zs[k] := List.getElem?_eq_getElem hkl
        have hok := HAC.out.ok k _ hak
        obtain ⟨ba, off, rfl, hba, hcc⟩ : ∃ b off, al = some ⟨b, off, none⟩ ∧ b < w.heap.size ∧ ∀ (i : Nat) x, zs[i]? = some x → ∀ j, j < 3 → w.cell? ⟨b, off + i * 3 + j, none⟩ = x.cells[j]? := by
          rcases HAC.out.cells with h0 | h
          · omega
          · exact h
        obtain ⟨a, ha⟩ : ∃ a, a = zs[k] := ⟨_, rfl⟩
        rw [← ha] at hok hak
        have h0 := hcc k _ hak 0 (by omega)
        have h1 := hcc k _ hak 1 (by omega)
        have h2 := hcc k _ hak 2 (by omega)
        simp only [List.getElem?_toArray, List.getElem?_cons_zero, List.getElem?_cons_succ, Nat.add_zero] at h0 h1 h2
        have HC0 := Lib.hid h0
        have HC1 := Lib.hid h1
        have HC2 := Lib.hid h2
        have HBA := Lib.hid hba
        have HOK := Lib.hid hok
        have HI := Lib.hid hi
        have HSA := Lib.hid hSA
        have HZ : Hid ((Tryd.prog.info? 80).map (·.size) = some SA.size ∧ SA.size = 24 ∧ SA.all (·.oneCell') = true) := Lib.hid (by rw [hSA]; exact ⟨size_rst, rfl, one_cells _⟩)
        obtain ⟨SB, hSB⟩ : ∃ SB, SB = (stepS s a).cells := ⟨_, rfl⟩
        have HZB : Hid ((Tryd.prog.info? 80).map (·.size) = some SB.size ∧ SB.size = 24 ∧ SB.all (·.oneCell') = true) := Lib.hid (by rw [hSB]; exact ⟨size_rst, rfl, one_cells _⟩)
        have HSB := Lib.hid hSB
        have HKL : Hid ((0 : Int) ≤ (k : Int) ∧ (k : Int) < (ll : Int)) := Lib.hid ⟨by omega, by omega⟩
        have hkI : (k : Int) < (ll : Int) := by omega
        have HSR := Lib.hid hS
        have HAR := Lib.hid hA
        have HBR := Lib.hid hB
        clear h0 h1 h2 hba hcc hok hak ha hi hSA hSB hS hA hB
        go_upto_region 13 with fail
        refine wp_region_reliesT (ChF [.pointer (some ⟨B, 0, none⟩), .agg SA, .slice (some ⟨ba, off, none⟩) ll cl, .int .i64 (k : Int), .pointer (some ⟨ba, off + k * 3, none⟩), .agg a.cells, undef, .tuple #[.agg SB, .bool true], .agg SB, .bool true, undef, .bool true] [6, 10] [] (TlS14 w B bS s (stepS s a) SA SB)) (fun _ => true) (by kernel_rfl) (by kernel_rfl) (by kernel_rfl) (by kernel_rfl) (ChF.start ⟨HBR.out.drew, HAR.out.below HAR.out.lt (Below.refl _ _).drew, HSR.out.below HSR.out.lt (Below.refl _ _).drew⟩) ?obls ?fini
        case obls =>
          refine ⟨⟨?_, ?_⟩, ⟨?_, ?_⟩, ⟨?_, ?_⟩, ⟨?_, ?_⟩, ⟨?_, ?_⟩, ⟨?_, ?_⟩, ⟨?_, ?_⟩, ⟨?_, ?_⟩, ⟨?_, ?_⟩, ⟨?_, ?_⟩, ⟨?_, ?_⟩, ⟨?_, ?_⟩, trivial⟩
          · rfl
          · rintro ρ f W ⟨vs, us, hX⟩ hfi hw hcl hf
            have f9 : ρ (.tmp 9) = .pointer (some ⟨B, 0, none⟩) := hf.1 9 (by simp [Op.operands])
            exact ok_value (v := .pointer (some ⟨B, 0, none⟩)) (w' := W) (by simp [execOp, f9]) (hX.pure 0 _ (by decide) (by decide) rfl hX.st)
          · rfl
          · rintro ρ f W ⟨vs, us, hX⟩ hfi hw hcl hf
            have f11 : ρ (.tmp 11) = .pointer (some ⟨bS, 0, none⟩) := hf.1 11 (by simp [Op.operands])
            have hnil := hX.le1 0 6 rfl (by
              rcases h : f 6 with _ | v
              · rfl
              · have h2 := hcl 6 (by rw [h]; rfl) 1 (by decide)
                rw [hfi] at h2; cases h2)
            obtain rfl := list0 hnil
            exact ok_value (v := .agg SA) (w' := W) (exec_load_row 80 (.tmp 11) rfl bS f11 hX.st.2.2 Tryd.underlying80 rfl HZ.out.1) (hX.pure 1 _ (by decide) (by decide) rfl hX.st)
          · rfl
          · rintro ρ f W ⟨vs, us, hX⟩ hfi hw hcl hf
            have f3 : ρ (.tmp 3) = .slice (some ⟨ba, off, none⟩) ll cl := hf.1 3 (by simp [Op.operands])
            exact ok_value (v := .slice (some ⟨ba, off, none⟩) ll cl) (w' := W) (by simp [execOp, f3]) (hX.pure 2 _ (by decide) (by decide) rfl hX.st)
          · rfl
          · rintro ρ f W ⟨vs, us, hX⟩ hfi hw hcl hf
            have f14 : ρ (.tmp 14) = .int .i64 (k : Int) := hf.1 14 (by simp [Op.operands])
            exact ok_value (v := .int .i64 (k : Int)) (w' := W) (by simp [execOp, f14]) (hX.pure 3 _ (by decide) (by decide) rfl hX.st)
          · rfl
          · rintro ρ f W ⟨vs, us, hX⟩ hfi hw hcl hf
            have f59 : ρ (.tmp 59) = .slice (some ⟨ba, off, none⟩) ll cl := hX.val 2 _ _ (by decide) (by decide) (hf.1 59 (by simp [Op.operands])) rfl
            have f60 : ρ (.tmp 60) = .int .i64 (k : Int) := hX.val 3 _ _ (by decide) (by decide) (hf.1 60 (by simp [Op.operands])) rfl
            have hkl := HKL.out
            exact ok_value (v := .pointer (some ⟨ba, off + k * 3, none⟩)) (w' := W) (by simp [execOp, f59, f60, go_sem, hkl.1, hkl.2]) (hX.pure 4 _ (by decide) (by decide) rfl hX.st)
          · rfl
          · rintro ρ f W ⟨vs, us, hX⟩ hfi hw hcl hf
            have f61 : ρ (.tmp 61) = .pointer (some ⟨ba, off + k * 3, none⟩) := hX.val 4 _ _ (by decide) (by decide) (hf.1 61 (by simp [Op.operands])) rfl
            have hc0 := (World.cell?_of_block (a := ⟨ba, off + k * 3, none⟩) (hX.st.1.block ba HBA.out)).trans HC0.out
            have hc1 := (World.cell?_of_block (a := ⟨ba, off + k * 3 + 1, none⟩) (hX.st.1.block ba HBA.out)).trans HC1.out
            have hc2 := (World.cell?_of_block (a := ⟨ba, off + k * 3 + 2, none⟩) (hX.st.1.block ba HBA.out)).trans HC2.out
            exact ok_value (v := .agg a.cells) (w' := W) (by simp [execOp, f61, go_sem, hc0, hc1, hc2]) (hX.pure 5 _ (by decide) (by decide) rfl hX.st)
          · rfl
          · rintro ρ f W ⟨vs, us, hX⟩ hfi hw hcl hf
            have f57 : ρ (.tmp 57) = .pointer (some ⟨B, 0, none⟩) := hX.val 0 _ _ (by decide) (by decide) (hf.1 57 (by simp [Op.operands, Call.operands])) rfl
            have f58 : ρ (.tmp 58) = .agg SA := hX.val 1 _ _ (by decide) (by decide) (hf.1 58 (by simp [Op.operands, Call.operands])) rfl
            have f62 : ρ (.tmp 62) = .agg a.cells := hX.val 5 _ _ (by decide) (by decide) (hf.1 62 (by simp [Op.operands, Call.operands])) rfl
            have hl := hX.le1 0 6 rfl hfi
            obtain rfl := list0 hl
            obtain ⟨hbe, ht1, hs1⟩ := hX.st
            refine ok_call (f := 38) (args := #[.pointer (some ⟨B, 0, none⟩), .agg SA, .agg a.cells]) (by simp [execOp, f57, f58, f62, hf.2.2.2, go_sem]) ?_
            refine (law_stepV HD.out HI.out HOK.out ht1 (HT0.out.below HT0.out.pos hbe) HSA.out HSB.out).mono ?_
            rintro e w5 ⟨rfl, ht5, hk5⟩
            exact ⟨_, rfl, hX.step1 6 _ rfl (by decide) (by decide) ⟨hbe.trans (hk5.toBelow HBB.out.1 hbe.size), rfl, ht5, hs1.kept (S := fun k => k ≠ B) (show bS ≠ B from HBB.out.2.1) hk5⟩⟩
          · rfl
          · rintro ρ f W ⟨vs, us, hX⟩ hfi hw hcl hf
            have g63 := hX.get1 0 6 rfl (hf.1 63 (by simp [Op.operands]))
            have f63 : ρ (.tmp 63) = .tuple #[.agg SB, .bool true] := TlS14.val hX.st g63
            exact ok_value (v := .tuple #[.agg SB, .bool true]) (w' := W) (by simp [execOp, f63]) (hX.pure 7 _ (by decide) (by decide) rfl hX.st)
          · rfl
          · rintro ρ f W ⟨vs, us, hX⟩ hfi hw hcl hf
            have f56 : ρ (.tmp 56) = .tuple #[.agg SB, .bool true] := hX.val 7 _ _ (by decide) (by decide) (hf.1 56 (by simp [Op.operands])) rfl
            exact ok_value (v := .agg SB) (w' := W) (by simp [execOp, f56, go_sem]) (hX.pure 8 _ (by decide) (by decide) rfl hX.st)
          · rfl
          · rintro ρ f W ⟨vs, us, hX⟩ hfi hw hcl hf
            have f56 : ρ (.tmp 56) = .tuple #[.agg SB, .bool true] := hX.val 7 _ _ (by decide) (by decide) (hf.1 56 (by simp [Op.operands])) rfl
            exact ok_value (v := .bool true) (w' := W) (by simp [execOp, f56, go_sem]) (hX.pure 9 _ (by decide) (by decide) rfl hX.st)
          · rfl
          · rintro ρ f W ⟨vs, us, hX⟩ hfi hw hcl hf
            have f11 : ρ (.tmp 11) = .pointer (some ⟨bS, 0, none⟩) := hf.1 11 (by simp [Op.operands])
            have f64 : ρ (.tmp 64) = .agg SB := hX.val 8 _ _ (by decide) (by decide) (hf.1 64 (by simp [Op.operands])) rfl
            have hl := hX.le1 1 10 rfl hfi
            obtain ⟨x, rfl⟩ : ∃ x, vs = [x] := by
              have h6 := hcl 8 (hw 8 (by decide)) 7 (by decide)
              have h6' := hcl 7 h6 6 (by decide)
              obtain ⟨v, hv⟩ := Option.isSome_iff_exists.1 h6'
              exact ⟨v, list1 hl (hX.get1 0 6 rfl hv)⟩
            obtain ⟨hbe, rfl, ht1, hs1⟩ := hX.st
            have hb5 := below_setRow (Below.refl bS W) (Nat.le_refl _) SB
            exact ok_skip (exec_store_row 80 (.tmp 11) (.tmp 64) rfl bS SB f11 f64 hs1 HZB.out.1 (by rw [HZB.out.2.1, HZ.out.2.1]) HZB.out.2.2) (hX.step1 10 _ rfl (by decide) (by decide) ⟨hbe.trans (hb5.mono HBB.out.2.2), rfl, ht1.kept (S := fun k => k ≠ bS) (show B ≠ bS from Ne.symm HBB.out.2.1) (kept_setRow SB), setRow_heap _ _ _ _ _ _ hs1⟩)
          · rfl
          · rintro ρ f W ⟨vs, us, hX⟩ hfi hw hcl hf
            have f65 : ρ (.tmp 65) = .bool true := hX.val 9 _ _ (by decide) (by decide) (hf.1 65 (by simp [Op.operands])) rfl
            exact ok_value (v := .bool true) (w' := W) (by simp [execOp, f65]) (hX.pure 11 _ (by decide) (by decide) rfl hX.st)
        case fini =>
          rintro us w6 hlen ⟨vs, us', hX⟩
          have hl0 : us.length = 12 := hlen
          match us, hl0 with
          | [y0, y1, y2, y3, y4, y5, y6, y7, y8, y9, y10, y11], _ =>
            have hst := hX.st
            obtain ⟨z0, hvs⟩ := list2 hX.l1 (hX.get1 1 10 rfl (v := y10) rfl)
            have hy : y11 = .bool true := hX.val 11 _ _ (by decide) (by decide) rfl rfl
            subst hy
            rw [hvs] at hst
            obtain ⟨hB6, -, hA6, hS6⟩ := hst
            have HB6 := Lib.hid hB6
            have HA6 := Lib.hid hA6
            have HS6 := Lib.hid hS6
            clear hX hvs hB6 hA6 hS6 hlen
            simp only [putAll, List.zip_cons_cons, List.zip_nil_right, List.foldl_cons, List.foldl_nil]
            simp only [Act.put, List.setIfInBounds_toArray, List.set_cons_succ, List.set_cons_zero]
            go_wp2_with fail
            go_roundw
            case rel => exact ⟨k + 1, stepS s a, by omega, by go_num, rfl, HI.out.stepS HD.out a, HA6.out, ⟨SB, HSB.out, HS6.out⟩, HB6.out⟩
            case measure => simp [intOf]; omega
      · have hkI : ¬ (k : Int) < (ll : Int) := by omega
        go_wp2_with fail
        go_ret
        exact ⟨rfl, hB⟩
end Go.Proofs.YtgnlmodaekfhfaaDoor
