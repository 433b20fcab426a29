/- The reference of chapter 40: Cells. -/
import Derived.Test.YtmkplfndbjcflaaPlH
import Derived.Deep.AppendLies
import Derived.Deep.RegionLaw
import Derived.Deep.CutRange
namespace Go.Proofs.Ytmkplfndbjcflaa
open Go.RowKit Go.Sort Go.Shelf Cnt

theorem zero110 : ∀ w : World, (zeroValue 110).run Try.prog w = .ok (.agg (tab 616 fun _ => 0)) w := by
  have h : (Try.prog.info? 110).map (fun i => (i.zero, i.size)) = some (some (.agg (tab 616 fun _ => 0)), 616) := by kernel_rfl
  cases hq : Try.prog.info? 110 with
  | none => simp [hq] at h
  | some i =>
    simp [hq] at h
    intro w
    simp [zeroValue, typeInfo, hq, h.1]
theorem zero82 : ∀ w : World, (zeroValue 82).run Try.prog w = .ok (.agg (tab 41 fun _ => 0)) w := by
  have h : (Try.prog.info? 82).map (fun i => (i.zero, i.size)) = some (some (.agg (tab 41 fun _ => 0)), 41) := by kernel_rfl
  cases hq : Try.prog.info? 82 with
  | none => simp [hq] at h
  | some i =>
    simp [hq] at h
    intro w
    simp [zeroValue, typeInfo, hq, h.1]
theorem size82 : (Try.prog.info? 82).map (·.size) = some 41 := by kernel_rfl
theorem under82 : Try.prog.underlying 82 = some (.array 41 3) := by kernel_rfl
theorem sp0_start : (tab 41 fun _ => 0).setIfInBounds 0 (Value.int .i64 1) = tab 41 sp0 := by
  have := tab_set 41 (fun _ => 0) 0 1
  refine Eq.trans ?_ (this.trans (tab_congr fun i _ => ?_))
  · rfl
  · unfold bump sp0; split <;> rfl
theorem suit_cell (hv : Nat → Nat) (s len q : Nat) (hs : s < 4) (hl : len < 14) (hq : q < 11) : (tab 616 hv)[s * 154 + len * 11 + q]? = some (.int .i64 ((suitRow hv s len q : Nat) : Int)) := tab_get 616 hv _ (by omega)

theorem row_new_at' (w : World) (cs : List Value) (t : TypeId) : ∀ j u, cs[j]? = some u → (w.alloc (.cells cs.toArray t)).cell? ((⟨w.heap.size, 0, none⟩ : Addr).add j) = some u := by
  intro j u hu
  have h := (Row.new w t cs.toArray).cell j
  rw [List.getElem?_toArray, hu] at h
  rw [← h]
  unfold Addr.add
  split
  · rename_i h0; have h0 : j = 0 := by simpa using h0
    subst h0; rfl
  · simp
theorem grown_cell {wr w2 : World} {cs : Array Value} {t : TypeId} {u7 : Value} {bw bl g cp : Nat} {zs : List Ce} {c : Ce} (hO : OwnC wr (bw + 1) u7 zs)
    (h2 : w2.ownsRow (bw + 1) 92 6 (.slice (some ⟨g, 0, none⟩) (zs.length + 1) cp) (zs.length + 1) (zs.flatMap encE ++ encE c))
    (h3 : (wr.drew.alloc (.cells cs t)).grownBy w2 u7.ownBlock) (h4 : u7.ownBlock = some g ∨ g = (wr.drew.alloc (.cells cs t)).heap.size) (hlt : bl + 1 < wr.heap.size)
    (hvb : ∀ g, u7.ownBlock = some g → g ≠ bl ∧ g ≠ bl + 1) (hbb : bw + 1 ≤ wr.heap.size) :
    OwnC w2 (bw + 1) (.slice (some ⟨g, 0, none⟩) (zs.length + 1) cp) (zs ++ [c]) ∧ (∀ g', (Value.slice (some ⟨g, 0, none⟩) (zs.length + 1) cp).ownBlock = some g' → g' ≠ bl ∧ g' ≠ bl + 1) ∧ bl + 1 < w2.heap.size ∧ Below bw wr w2 ∧
      ∀ k, (k = bw ∨ k = bl ∨ k = bl + 1) → w2.heap[k]? = wr.heap[k]? := by
  have hsz : (wr.drew.alloc (.cells cs t)).heap.size = wr.heap.size + 1 := by rw [World.size_alloc]; rfl
  rw [hsz] at h4
  have hown := fun k hk => (World.ownsRow.lt hO.2 k hk)
  have hb1 : Below (bw + 1) wr (wr.drew.alloc (.cells cs t)) := (Below.refl _ wr).drew.alloc (show bw + 1 ≤ wr.drew.heap.size from hbb) _
  have hb2 : Below (bw + 1) wr w2 := hb1.grown h3 (by rw [hsz]; omega) (fun k hk => (hown k hk).1)
  have hs3 := h3.size
  refine ⟨⟨encE_len, ?_⟩, ?_, by omega, hb2.mono (by omega), ?_⟩
  · rw [List.length_append, List.flatMap_append]
    simpa using h2
  · intro g' hg'
    simp only [Value.ownBlock, Option.some.injEq] at hg'
    subst hg'
    rcases h4 with h4 | h4
    · exact hvb _ h4
    · omega
  · intro k hk
    have hkl : k < wr.heap.size := by omega
    refine (h3.block k (by omega) ?_).trans ?_
    · intro e
      have e := e.symm
      have h5 := hown k e
      have h6 := hvb k e
      omega
    · exact Below.heap_alloc wr.drew _ k hkl

set_option maxHeartbeats 8000000 in
set_option maxRecDepth 10000 in
theorem rf_Cells (left nn : Nat) (hl : left < 4503599627370496) (hn : nn ≤ 13) (w : World) : Calls Try.prog 47 #[.int .u64 (left : Int), .int .i64 (nn : Int)] w fun e w' => (∃ v, e = .returned v ∧ OwnC w' w.heap.size v (ceOf left nn)) ∧ Below w.heap.size w w' := by
  have HLW : Hid (W64 left) := Lib.hid (by unfold W64; omega)
  have hz := zero110
  clear hl
  go_enter Try.func47, Try.ntmps47
  go_wp2_with fail
  have hb0 : Below w.heap.size w (w.alloc (.cells (tab 616 fun _ => 0) 110)) := (Below.refl _ _).alloc (Nat.le_refl _) _
  have hr0 : Row (w.alloc (.cells (tab 616 fun _ => 0) 110)) w.heap.size 110 (tab 616 (hvTo left 0)) := by
    rw [hvTo_zero]; exact Row.new _ _ _
  go_loopw [6] (fun i wr => ∃ (k : Nat), k ≤ 4 ∧ i = .int .i64 (k : Int) ∧ Below w.heap.size w wr ∧ Row wr w.heap.size 110 (tab 616 (hvTo left k))) (fun i _ => 4 - (intOf i).toNat)
  case atStart => exact ⟨0, by omega, rfl, hb0, hr0⟩
  case round =>
    clear hb0 hr0
    obtain ⟨k, hk, rfl, hB, hR⟩ := hrel
    have HB := Lib.hid hB
    have HR := Lib.hid hR
    clear hB hR
    by_cases hlt : k < 4
    · have hlI : (k : Int) < 4 := by omega
      have hd : decide ((k : Int) < 4) = true := by simp; omega
      go_wp2_with (first
        | (go_at_call 63; refine (rf_holdings left k HLW.out hlt _).mono ?_; rintro e w7 ⟨rfl, hb7⟩; have HR7 := Lib.hid (HR.out.later hb7); have HB7 := Lib.hid (HB.out.trans (hb7.mono HB.out.size)); clear hb7)
        | refine wpList_store_part rfl 101 (.tmp 26) (.tmp 25) rfl w.heap.size (k * 154) (tab 154 (holdV (scards left k))) rfl rfl _ _ HR7.out (by rw [size101, tab_size]) (by simp; omega) (tab_one _ _) ?_)
      refine ⟨⟨k + 1, by omega, by simp, below_setRow HB7.out (Nat.le_refl _) _, ?_⟩, by simp [intOf]; omega⟩
      have := setRow_heap w7 w.heap.size _ (putAt (tab 616 (hvTo left k)) (k * 154) (tab 154 (holdV (scards left k))).toList) _ _ HR7.out
      rw [putAt_tab _ _ _ _ _ (by omega), hvTo_succ] at this
      rw [putAt_tab _ _ _ _ _ (by omega), hvTo_succ]
      exact this
    · obtain rfl : k = 4 := by omega
      simp only [show ((4 : Nat) : Int) = 4 from rfl]
      have HV : Hid (∀ a b c, a + b + c ≤ nn → ∀ s, s ≤ 4 → Okf (cv (hvTo left 4) (lR nn a b c) s) s) := Lib.hid fun a b c h s hs => cv_ok left nn a b c hn h s hs
      have HG : Hid (∀ s len, s < 4 → len ≤ 13 → sumN 11 (suitRow (hvTo left 4) s len) ≤ 20160) := Lib.hid fun s len hs hl => suitRow_sum left s len hs hl
      have HCE : Hid (L1 (hvTo left 4) nn (nn + 1) = ceOf left nn) := Lib.hid rfl
      generalize hvTo left 4 = hv at *
      have hz82 := zero82
      clear hz
      go_wp2_with fail
      go_loopw [7, 8] (fun v i wr => ∃ (a : Nat), a ≤ nn + 1 ∧ i = .int .i64 (a : Int) ∧ OwnC wr (w.heap.size + 1) v (L1 hv nn a) ∧ Below w.heap.size w wr ∧ Row wr w.heap.size 110 (tab 616 hv)) (fun _ i _ => nn + 1 - (intOf i).toNat)
      case atStart => exact ⟨0, by omega, rfl, Owns.nil encE_len _ _, HB.out, HR.out⟩
      case round =>
        clear HB HR
        obtain ⟨a, ha, rfl, hO, hB, hR⟩ := hrel
        have HB := Lib.hid hB
        have HR := Lib.hid hR
        have HO := Lib.hid hO
        clear hB hR hO
        by_cases hla : a ≤ nn
        · have hda : decide ((a : Int) ≤ (nn : Int)) = true := by simp; omega
          have HLA : Hid ((L1 hv nn a).length ≤ 112504) := Lib.hid (Nat.le_trans (L1_len _ _ _ hn) (by omega))
          have HSA : Hid (L1 hv nn (a + 1) = L1 hv nn a ++ L2 hv nn a (nn - a + 1)) := Lib.hid rfl
          generalize L1 hv nn a = la at *
          go_wp2_with fail
          go_loopw [7, 9] (fun v i wr => ∃ (b : Nat), b ≤ nn - a + 1 ∧ i = .int .i64 (b : Int) ∧ OwnC wr (w.heap.size + 1) v (la ++ L2 hv nn a b) ∧ Below w.heap.size w wr ∧ Row wr w.heap.size 110 (tab 616 hv)) (fun _ i _ => nn - a + 1 - (intOf i).toNat)
          case atStart => exact ⟨0, by omega, rfl, by show OwnC _ _ _ (la ++ []); rw [List.append_nil]; exact HO.out, HB.out, HR.out⟩
          case round =>
            clear HB HR HO
            obtain ⟨b, hb, rfl, hO, hB, hR⟩ := hrel
            have HB := Lib.hid hB
            have HR := Lib.hid hR
            have HO := Lib.hid hO
            clear hB hR hO
            by_cases hlb : a + b ≤ nn
            · have hdb : decide ((a : Int) + (b : Int) ≤ (nn : Int)) = true := by simp; omega
              have HLB : Hid ((la ++ L2 hv nn a b).length ≤ 120540) := Lib.hid (by
                rw [List.length_append]
                have h1 := L2_len hv nn a b hn
                have h2 : b * 574 ≤ 8036 := by omega
                have h3 := HLA.out
                omega)
              have HSB : Hid (la ++ L2 hv nn a (b + 1) = (la ++ L2 hv nn a b) ++ L3 hv nn a b (nn - a - b + 1)) := Lib.hid (by rw [List.append_assoc]; rfl)
              generalize la ++ L2 hv nn a b = lb at *
              go_wp2_with fail
              go_loopw [7, 10] (fun v i wr => ∃ (c : Nat), c ≤ nn - a - b + 1 ∧ i = .int .i64 (c : Int) ∧ OwnC wr (w.heap.size + 1) v (lb ++ L3 hv nn a b c) ∧ Below w.heap.size w wr ∧ Row wr w.heap.size 110 (tab 616 hv)) (fun _ i _ => nn - a - b + 1 - (intOf i).toNat)
              case atStart => exact ⟨0, by omega, rfl, by show OwnC _ _ _ (lb ++ []); rw [List.append_nil]; exact HO.out, HB.out, HR.out⟩
              case round =>
                clear HB HR HO
                obtain ⟨c, hc, rfl, hO, hB, hR⟩ := hrel
                have HB := Lib.hid hB
                have HR := Lib.hid hR
                have HO := Lib.hid hO
                clear hB hR hO
                by_cases hlc : a + b + c ≤ nn
                · have hdc : decide ((a : Int) + (b : Int) + (c : Int) ≤ (nn : Int)) = true := by simp; omega
                  have HLC : Hid ((lb ++ L3 hv nn a b c).length ≤ 121200) := Lib.hid (by
                    rw [List.length_append]
                    have h1 := L3_len hv nn a b c
                    have h2 : c * 41 ≤ 574 := by omega
                    have h3 := HLB.out
                    omega)
                  have HSC : Hid (lb ++ L3 hv nn a b (c + 1) = (lb ++ L3 hv nn a b c) ++ flatC (lR nn a b c) (cv hv (lR nn a b c) 4) 41) := Lib.hid (by rw [List.append_assoc]; rfl)
                  have HVC := Lib.hid (HV.out a b c hlc)
                  have HLE : Hid (∀ s, s < 4 → lR nn a b c s ≤ 13) := Lib.hid fun s hs => lR_le nn a b c s hn hlc hs
                  obtain ⟨d, HD⟩ : ∃ d, Hid (nn - a - b - c = d) := ⟨_, Lib.hid rfl⟩
                  have hdd : (nn : Int) - (a : Int) - (b : Int) - (c : Int) = (d : Int) := by have := HD.out; omega
                  obtain ⟨lf, HLF⟩ : ∃ lf, Hid (lens4 a b c d = lf) := ⟨_, Lib.hid rfl⟩
                  have hlR : lR nn a b c = lf := by rw [← HLF.out, ← HD.out]
                  have HAR : Hid ((#[.int .i64 (a : Int), .int .i64 (b : Int), .int .i64 (c : Int), .int .i64 (d : Int)] : Array Value) = larr lf) := Lib.hid (by rw [← HLF.out]; rfl)
                  rw [hlR] at HSC HVC HLE
                  clear hlR
                  generalize lb ++ L3 hv nn a b c = lc at *
                  obtain ⟨W4, hW4⟩ : ∃ W4, W4 = wr := ⟨_, rfl⟩
                  subst hW4
                  go_wp2_with fail
                  rw [HAR.out, sp0_start]
                  have hb6 : Below W4.heap.size W4 ((W4.alloc (.cells (larr lf) 80)).alloc (.cells (tab 41 sp0) 82)) := ((Below.refl _ _).alloc (Nat.le_refl _) _).alloc (by simp) _
                  have hl6 : Row ((W4.alloc (.cells (larr lf) 80)).alloc (.cells (tab 41 sp0) 82)) W4.heap.size 80 (larr lf) := (Row.new _ _ _).alloc _
                  have hm6 : Row ((W4.alloc (.cells (larr lf) 80)).alloc (.cells (tab 41 sp0) 82)) (W4.heap.size + 1) 82 (tab 41 (cv hv lf 0)) := Row.new1 _ _ _ _
                  have hsz : ((W4.alloc (.cells (larr lf) 80)).alloc (.cells (tab 41 sp0) 82)).heap.size = W4.heap.size + 2 := by simp
                  generalize ((W4.alloc (.cells (larr lf) 80)).alloc (.cells (tab 41 sp0) 82)) = W6 at *
                  have hlt5 := HR.out.lt
                  go_loopw [13] (fun i wr => ∃ (s : Nat), s ≤ 4 ∧ i = .int .i64 (s : Int) ∧ Below W4.heap.size W4 wr ∧ Row wr W4.heap.size 80 (larr lf) ∧ Row wr (W4.heap.size + 1) 82 (tab 41 (cv hv lf s))) (fun i _ => 4 - (intOf i).toNat)
                  case atStart => exact ⟨0, by omega, rfl, hb6, hl6, hm6⟩
                  case round =>
                    clear hb6 hl6 hm6
                    obtain ⟨s, hs, rfl, hb, hl, hm⟩ := hrel
                    have HBs := Lib.hid hb
                    have HLs := Lib.hid hl
                    have HMs := Lib.hid hm
                    clear hb hl hm
                    by_cases hls : s < 4
                    · have hds : decide ((s : Int) < 4) = true := by simp; omega
                      have HOK := Lib.hid (HVC.out s (by omega))
                      have HSL := Lib.hid (HLE.out s hls)
                      have HSU : Hid (cv hv lf (s + 1) = jTo (cv hv lf s) (suitRow hv s (lf s)) 41) := Lib.hid rfl
                      have HSM := Lib.hid (HOK.out.small hls (HG.out s (lf s) hls HSL.out))
                      generalize cv hv lf s = f at *
                      go_wp2_with fail
                      have hn7 : Row (wr.alloc (.cells (tab 41 fun _ => 0) 82)) wr.heap.size 82 (tab 41 (jTo f (suitRow hv s (lf s)) 0)) := Row.new _ _ _
                      have hb7 : Below W4.heap.size W4 (wr.alloc (.cells (tab 41 fun _ => 0) 82)) := HBs.out.alloc HBs.out.size _
                      have hl7 : Row (wr.alloc (.cells (tab 41 fun _ => 0) 82)) W4.heap.size 80 (larr lf) := HLs.out.alloc _
                      have hm7 : Row (wr.alloc (.cells (tab 41 fun _ => 0) 82)) (W4.heap.size + 1) 82 (tab 41 f) := HMs.out.alloc _
                      have hns : W4.heap.size + 1 < wr.heap.size := HMs.out.lt
                      generalize wr.heap.size = bn at *
                      generalize wr.alloc (.cells (tab 41 fun _ => 0) 82) = W7 at *
                      go_loopw [15] (fun i wr => ∃ (p : Nat), p ≤ 41 ∧ i = .int .i64 (p : Int) ∧ Below W4.heap.size W4 wr ∧ Row wr W4.heap.size 80 (larr lf) ∧ Row wr (W4.heap.size + 1) 82 (tab 41 f) ∧ Row wr bn 82 (tab 41 (jTo f (suitRow hv s (lf s)) p))) (fun i _ => 41 - (intOf i).toNat)
                      case atStart => exact ⟨0, by omega, rfl, hb7, hl7, hm7, hn7⟩
                      case round =>
                        clear hn7 hb7 hl7 hm7 HBs HLs HMs
                        obtain ⟨p, hp, rfl, hb, hl, hm, hnx⟩ := hrel
                        have HBs := Lib.hid hb
                        have HLs := Lib.hid hl
                        have HMs := Lib.hid hm
                        have HNs := Lib.hid hnx
                        clear hb hl hm hnx
                        by_cases hlp : p < 41
                        · have hdp : decide ((p : Int) ≤ 40) = true := by simp; omega
                          go_wp2_with fail
                          go_loopw [16] (fun i wr => ∃ (q : Nat), q ≤ 11 ∧ i = .int .i64 (q : Int) ∧ Below W4.heap.size W4 wr ∧ Row wr W4.heap.size 80 (larr lf) ∧ Row wr (W4.heap.size + 1) 82 (tab 41 f) ∧ Row wr bn 82 (tab 41 (jAdd f (suitRow hv s (lf s)) p q (jTo f (suitRow hv s (lf s)) p)))) (fun i _ => 11 - (intOf i).toNat)
                          case atStart => exact ⟨0, by omega, rfl, HBs.out, HLs.out, HMs.out, HNs.out⟩
                          case round =>
                            clear HBs HLs HMs HNs
                            obtain ⟨q, hq, rfl, hb, hl, hm, hnx⟩ := hrel
                            have HBs := Lib.hid hb
                            have HLs := Lib.hid hl
                            have HMs := Lib.hid hm
                            have HNs := Lib.hid hnx
                            clear hb hl hm hnx
                            by_cases hcond : q ≤ 10 ∧ p + q ≤ 40
                            · obtain ⟨hq10, hpq⟩ := hcond
                              obtain ⟨r, hr⟩ : ∃ r, p + q = r := ⟨_, rfl⟩
                              have hle := jAdd_at (f := f) (g := suitRow hv s (lf s)) (N := 41) hlp (show q < 11 by omega) (show r < 41 by omega)
                              have hsm := HSM.out
                              have HJS : Hid (∀ W, Row W bn 82 (tab 41 (jAdd f (suitRow hv s (lf s)) p q (jTo f (suitRow hv s (lf s)) p))) → Row (W.setCell ⟨bn, r, none⟩ (.int .i64 ((jAdd f (suitRow hv s (lf s)) p q (jTo f (suitRow hv s (lf s)) p) r : Int) + ((f p * suitRow hv s (lf s) q : Nat) : Int)))) bn 82 (tab 41 (jAdd f (suitRow hv s (lf s)) p (q + 1) (jTo f (suitRow hv s (lf s)) p)))) := Lib.hid fun W hW => by
                                have := hW.set r (.int .i64 ((jAdd f (suitRow hv s (lf s)) p q (jTo f (suitRow hv s (lf s)) p) r + f p * suitRow hv s (lf s) q : Nat) : Int))
                                have e : jAdd f (suitRow hv s (lf s)) p (q + 1) (jTo f (suitRow hv s (lf s)) p) = bump (jAdd f (suitRow hv s (lf s)) p q (jTo f (suitRow hv s (lf s)) p)) r (f p * suitRow hv s (lf s) q) := by rw [← hr]; rfl
                                rw [tab_set, Int.natCast_add] at this
                                rw [e]
                                exact this
                              have c1 := (HNs.out.cell r).trans (tab_get 41 _ r (by omega))
                              have c2 := (HMs.out.cell p).trans (tab_get 41 f p hlp)
                              have c3 := (HLs.out.cell s).trans (larr_get lf s hls)
                              have hln := HSL.out
                              have c4 := ((HR.out.below hlt5 HBs.out).cell (s * 154 + lf s * 11 + q)).trans (suit_cell hv s (lf s) q hls (by omega) (by omega))
                              generalize jAdd f (suitRow hv s (lf s)) p q (jTo f (suitRow hv s (lf s)) p) r = va at *
                              generalize hgq : suitRow hv s (lf s) q = vg at *
                              obtain ⟨ln, HLN⟩ : ∃ ln, Hid (lf s = ln) := ⟨_, Lib.hid rfl⟩
                              rw [HLN.out] at c3 c4 hln
                              generalize f p = vf at *
                              have hmul : (vf : Int) * (vg : Int) = ((vf * vg : Nat) : Int) := by simp
                              generalize vf * vg = z at *
                              have hwz : IntKind.i64.wrap (z : Int) = (z : Int) := IntWalk.i64_in _ (by omega)
                              have hws : IntKind.i64.wrap ((va : Int) + (z : Int)) = (va : Int) + (z : Int) := IntWalk.i64_in _ (by omega)
                              have hri : (p : Int) + (q : Int) = (r : Int) := by omega
                              have hrw : IntKind.i64.wrap ((p : Int) + (q : Int)) = (r : Int) := by rw [hri]; exact IntWalk.i64_in _ (by omega)
                              have b1 : r < 41 := by omega
                              have b2 : (r : Int) < 41 := by omega
                              have b3 : (p : Int) < 41 := by omega
                              have b4 : (s : Int) < 4 := by omega
                              have b5 : ln < 14 := by omega
                              have b6 : (ln : Int) < 14 := by omega
                              have b7 : q < 11 := by omega
                              have b8 : (q : Int) < 11 := by omega
                              have b9 : decide ((q : Int) ≤ 10) = true := by simp; omega
                              have b10 : decide ((r : Int) ≤ 40) = true := by simp; omega
                              have r1 := fun dd os => cell_regrown c1 dd os
                              have r2 := fun dd os => cell_regrown c2 dd os
                              have r3 := fun dd os => cell_regrown c3 dd os
                              have r4 := fun dd os => cell_regrown c4 dd os
                              have HRR := Lib.hid hr
                              clear hle hsm hr hq10 hpq hln hgq
                              go_wp2_with fail
                              refine wp_region_below_tail 23 (by kernel_rfl) (by kernel_rfl) ?_
                              simp only [List.take_succ_cons, List.take_zero, List.drop_succ_cons, List.drop_zero]
                              repeat (first | go_big_quiet_step (fail) | quiet_step (fail))
                              refine wpQuiet_nil ?_
                              rintro _ ⟨pp, rfl⟩
                              have hb := below_regrown wr pp.d pp.os
                              have hN2 := HNs.out.later hb
                              have HL2 := Lib.hid ((HLs.out.later hb).other (i := r) (v := .int .i64 ((va : Int) + (z : Int))) (show W4.heap.size ≠ bn by omega))
                              have HM2 := Lib.hid ((HMs.out.later hb).other (i := r) (v := .int .i64 ((va : Int) + (z : Int))) (show W4.heap.size + 1 ≠ bn by omega))
                              have HB2 := Lib.hid ((HBs.out.trans (hb.mono HBs.out.size)).setCell (p := ⟨bn, r, none⟩) (show W4.heap.size ≤ bn by omega) (.int .i64 ((va : Int) + (z : Int))))
                              generalize grow (redrawn wr pp.d) pp.os = wa at *
                              have f3 := hN2.frozen r
                              have c5 : wa.cell? ⟨bn, r, none⟩ = some (.int .i64 (va : Int)) := by rw [hN2.cell, ← HNs.out.cell]; exact c1
                              have HN2 := Lib.hid (HJS.out wa hN2)
                              clear hb r1 r2 r3 r4 c1 c2 c3 c4 hN2 hri hrw
                              go_wp2_with fail
                              go_roundw
                              · exact ⟨q + 1, by omega, by simp, HB2.out, HL2.out, HM2.out, HN2.out⟩
                              · simp [intOf]; omega
                            · have HJE : Hid (tab 41 (jAdd f (suitRow hv s (lf s)) p q (jTo f (suitRow hv s (lf s)) p)) = tab 41 (jTo f (suitRow hv s (lf s)) (p + 1))) := Lib.hid (by
                                by_cases h11 : q = 11
                                · subst h11; rfl
                                · have := jAdd_cut f (suitRow hv s (lf s)) p q (jTo f (suitRow hv s (lf s)) p) (by omega) (11 - q)
                                  rw [← this, show q + (11 - q) = 11 by omega]
                                  rfl)
                              have HN2 : Hid (Row wr bn 82 (tab 41 (jTo f (suitRow hv s (lf s)) (p + 1)))) := Lib.hid (by rw [← HJE.out]; exact HNs.out)
                              by_cases hq10 : q ≤ 10
                              · have b9 : decide ((q : Int) ≤ 10) = true := by simp; omega
                                have b10 : decide ((p : Int) + (q : Int) ≤ 40) = false := by simp; omega
                                go_wp2_with fail
                                go_roundw
                                · exact ⟨p + 1, by omega, by simp, HBs.out, HLs.out, HMs.out, HN2.out⟩
                                · simp [intOf]; omega
                              · have b9 : decide ((q : Int) ≤ 10) = false := by simp; omega
                                go_wp2_with fail
                                go_roundw
                                · exact ⟨p + 1, by omega, by simp, HBs.out, HLs.out, HMs.out, HN2.out⟩
                                · simp [intOf]; omega
                        · obtain rfl : p = 41 := by omega
                          simp only [show ((41 : Nat) : Int) = 41 from rfl]
                          have HM3 := Lib.hid (setRow_heap wr (W4.heap.size + 1) _ (tab 41 (jTo f (suitRow hv s (lf s)) 41)) _ _ HMs.out)
                          have HL3 := Lib.hid (HLs.out.same (setRow_other wr (W4.heap.size + 1) W4.heap.size (tab 41 (jTo f (suitRow hv s (lf s)) 41)) (by omega)))
                          have HB3 := Lib.hid (below_setRow HBs.out (show W4.heap.size ≤ W4.heap.size + 1 by omega) (tab 41 (jTo f (suitRow hv s (lf s)) 41)))
                          go_wp2_with (first | refine wpList_load_row rfl 82 (.tmp 14) rfl bn rfl 82 (tab 41 (jTo f (suitRow hv s (lf s)) 41)) (0, 0) _ HNs.out under82 rfl (by rw [size82, tab_size]) ?_ | refine wpList_store_row rfl 82 (.tmp 12) (.tmp 101) rfl (W4.heap.size + 1) (tab 41 (jTo f (suitRow hv s (lf s)) 41)) rfl rfl 82 _ HMs.out (by rw [size82, tab_size]) (by rw [tab_size, tab_size]) (tab_one _ _) ?_)
                          exact ⟨⟨s + 1, by omega, by simp, HB3.out, HL3.out, by rw [HSU.out]; exact HM3.out⟩, by simp [intOf]; omega⟩
                    · obtain rfl : s = 4 := by omega
                      simp only [show ((4 : Nat) : Int) = 4 from rfl]
                      have HO4 := Lib.hid (HO.out.below HBs.out)
                      have HR4 := Lib.hid (HR.out.later HBs.out)
                      have HB4 := Lib.hid (HB.out.trans (HBs.out.mono HB.out.size))
                      have hns : W4.heap.size + 1 < wr.heap.size := HMs.out.lt
                      have HVB : Hid (∀ g, u7.ownBlock = some g → g < W4.heap.size) := Lib.hid fun g hg => (World.ownsRow.lt HO.out.2 g hg).2
                      clear HO HR HB HBs
                      have HFP := Lib.hid (HVC.out 4 (by omega))
                      have HFB : Hid (∀ p, p < 41 → cv hv lf 4 p ≤ 20160 ^ 4) := Lib.hid fun p hp => Nat.le_trans (le_sumN (cv hv lf 4) hp) HFP.out.sum
                      generalize cv hv lf 4 = F at *
                      generalize hbl : W4.heap.size = bl at *
                      go_wp2_with fail
                      go_loopw [7, 17] (fun v i wr => ∃ (p : Nat), p ≤ 41 ∧ i = .int .i64 (p : Int) ∧ OwnC wr (w.heap.size + 1) v (lc ++ flatC lf F p) ∧ (∀ g, v.ownBlock = some g → g ≠ bl ∧ g ≠ bl + 1) ∧ bl + 1 < wr.heap.size ∧ Below w.heap.size w wr ∧ Row wr w.heap.size 110 (tab 616 hv) ∧ Row wr bl 80 (larr lf) ∧ Row wr (bl + 1) 82 (tab 41 F)) (fun _ i _ => 41 - (intOf i).toNat)
                      case atStart => exact ⟨0, by omega, rfl, by show OwnC _ _ _ (lc ++ []); rw [List.append_nil]; exact HO4.out, fun g hg => by have := HVB.out g hg; omega, hns, HB4.out, HR4.out, HLs.out, HMs.out⟩
                      case round =>
                        clear HO4 HR4 HB4 HLs HMs HVB hns
                        obtain ⟨p, hp, rfl, hO, hvb, hns, hB, hR, hL, hM⟩ := hrel
                        have HO := Lib.hid hO
                        have HVB := Lib.hid hvb
                        have HB := Lib.hid hB
                        have HR := Lib.hid hR
                        have HL := Lib.hid hL
                        have HM := Lib.hid hM
                        have HNS := Lib.hid hns
                        clear hO hvb hB hR hL hM hns
                        by_cases hlp : p < 41
                        · have hdp : decide ((p : Int) ≤ 40) = true := by simp; omega
                          have hp41 : (p : Int) < 41 := by omega
                          have c1 := (HM.out.cell p).trans (tab_get 41 F p hlp)
                          have HFS := Lib.hid (flatC_succ lf F p)
                          have HLN : Hid ((lc ++ flatC lf F p).length ≤ 1000000) := Lib.hid (by
                            rw [List.length_append]
                            have h1 := flatC_len lf F p
                            have h2 := HLC.out
                            omega)
                          rcases Nat.eq_zero_or_pos (F p) with hf | hf
                          · rw [hf] at c1
                            rw [hf, if_neg (by omega), List.append_nil] at HFS
                            have HOS : Hid (OwnC wr (w.heap.size + 1) u7 (lc ++ flatC lf F (p + 1))) := Lib.hid (by rw [HFS.out]; exact HO.out)
                            clear hf
                            simp only [show ((0 : Nat) : Int) = 0 from rfl] at c1
                            go_wp2_with fail
                            exact ⟨⟨p + 1, by omega, by simp, HOS.out, HVB.out, HNS.out, HB.out, HR.out, HL.out, HM.out⟩, by simp [intOf]; omega⟩
                          · rw [if_pos hf] at HFS
                            have hfi : decide ((0 : Int) < (F p : Int)) = true := by simp; omega
                            have c2 := HL.out.cell 0
                            have c3 := HL.out.cell 1
                            have c4 := HL.out.cell 2
                            have c5 := HL.out.cell 3
                            simp only [List.getElem?_toArray, List.getElem?_cons_zero, List.getElem?_cons_succ] at c2 c3 c4 c5
                            have r1 := fun dd os => cell_regrown c1 dd os
                            have r2 := fun dd os => cell_regrown c2 dd os
                            have r3 := fun dd os => cell_regrown c3 dd os
                            have r4 := fun dd os => cell_regrown c4 dd os
                            have r5 := fun dd os => cell_regrown c5 dd os
                            have hfd : decide (0 < F p) = true := decide_eq_true hf
                            obtain ⟨i0, hi, hz0, hz1, hz2⟩ := info_parts info_ce
                            have HOWN := Lib.hid (World.ownsRow.drew HO.out.2)
                            have hbb : w.heap.size + 1 ≤ wr.heap.size := HR.out.lt
                            go_wp2_with fail
                            go_region_law (refine step_append_lies _ rfl (.tmp 110) (.tmp 117) 88 rfl (w.heap.size + 1) 92 i0 _ 6 48 Try.underlying88 hi hz0 hz1 hz2 rfl (by decide) u7 (lc ++ flatC lf F p).length ((lc ++ flatC lf F p).flatMap encE) (by simp [Act.eval]) (World.ownsRow.alloc HOWN.out _) ⟨wr.heap.size, 0, none⟩ 1 1 (encE ⟨p, lf, F p⟩) (by simp [Act.eval]) rfl (row_new_at' wr.drew (encE ⟨p, lf, F p⟩) _) (encE_one _) (by decide) (by unfold maxLen; have := HLN.out; omega) (by have := HLN.out; omega) (by show _ ≤ (wr.alloc _).heap.size; rw [World.size_alloc]; omega) _ rfl ?_; intro g cp w2 h2 h3 h4 h5; have HG2 := Lib.hid (grown_cell HO.out h2 h3 h4 HNS.out HVB.out hbb); clear h2 h3 h4 h5)
                            all_goals
                              obtain ⟨q1, q2, q3, q4, q5⟩ := HG2.out
                              have HO2 : Hid (OwnC w2 (w.heap.size + 1) (.slice (some ⟨g, 0, none⟩) ((lc ++ flatC lf F p).length + 1) cp) (lc ++ flatC lf F (p + 1))) := Lib.hid (by rw [HFS.out, ← List.append_assoc]; exact q1)
                              have Q2 := Lib.hid q2
                              have Q3 := Lib.hid q3
                              have Q4 := Lib.hid (HB.out.trans q4)
                              have Q5 := Lib.hid (HR.out.same (q5 _ (.inl rfl)))
                              have Q6 := Lib.hid (HL.out.same (q5 _ (.inr (.inl rfl))))
                              have Q7 := Lib.hid (HM.out.same (q5 _ (.inr (.inr rfl))))
                              clear q1 q2 q3 q4 q5 c1 c2 c3 c4 c5 r1 r2 r3 r4 r5 hi hz0 hz1 hz2 HG2
                              go_wp2_with fail
                              exact ⟨⟨p + 1, by omega, by simp, by have h := HO2.out; rw [List.length_append] at h; exact h, by have h := Q2.out; rw [List.length_append] at h; exact h, Q3.out, Q4.out, Q5.out, Q6.out, Q7.out⟩, by simp [intOf]; omega⟩
                        · obtain rfl : p = 41 := by omega
                          have HO5 : Hid (OwnC wr (w.heap.size + 1) u7 (lb ++ L3 hv nn a b (c + 1))) := Lib.hid (by rw [HSC.out]; exact HO.out)
                          simp only [show ((41 : Nat) : Int) = 41 from rfl]
                          go_wp2_with fail
                          exact ⟨⟨c + 1, by omega, by simp, HO5.out, HB.out, HR.out⟩, by simp [intOf]; omega⟩
                · have hc1 : nn - a - b + 1 = c := by omega
                  rw [hc1] at HSB
                  have HO5 : Hid (OwnC wr (w.heap.size + 1) u7 (la ++ L2 hv nn a (b + 1))) := Lib.hid (by rw [HSB.out]; exact HO.out)
                  have hdc : decide ((a : Int) + (b : Int) + (c : Int) ≤ (nn : Int)) = false := by simp; omega
                  clear hc1
                  go_wp2_with fail
                  exact ⟨⟨b + 1, by omega, by simp, HO5.out, HB.out, HR.out⟩, by simp [intOf]; omega⟩
            · have hb1 : nn - a + 1 = b := by omega
              rw [hb1] at HSA
              have HO5 : Hid (OwnC wr (w.heap.size + 1) u7 (L1 hv nn (a + 1))) := Lib.hid (by rw [HSA.out]; exact HO.out)
              have hdb : decide ((a : Int) + (b : Int) ≤ (nn : Int)) = false := by simp; omega
              clear hb1
              go_wp2_with fail
              exact ⟨⟨a + 1, by omega, by simp, HO5.out, HB.out, HR.out⟩, by simp [intOf]; omega⟩
        · have ha1 : nn + 1 = a := by omega
          rw [ha1] at HCE
          have HO5 : Hid (OwnC wr (w.heap.size + 1) u7 (ceOf left nn)) := Lib.hid (by rw [← HCE.out]; exact HO.out)
          have hda : decide ((a : Int) ≤ (nn : Int)) = false := by simp; omega
          clear ha1
          go_wp2_with fail
          exact bodyPost_ret (v := u7) (by simp [results, Try.results47, go_sem]) rfl ⟨⟨_, rfl, HO5.out.mono (by omega)⟩, HB.out⟩
end Go.Proofs.Ytmkplfndbjcflaa
