/- ClE, ClF in one text. -/
import Derived.Test.YtnbillhodbcfbaaDoorMClc

/- Tables of package claim over this seat's program: distinct. -/
namespace Go.Proofs.YtnbillhodbcfbaaDoor
open Go.RowKit Go.Sort Go.Shelf

set_option maxHeartbeats 2000000 in
set_option maxRecDepth 10000 in
theorem cl_distinct (t : Tb) (h : TbOk t) (w : World) (hT : Tab w) : Calls Tryd.prog 45 #[.agg (tbA t)] w fun e w' => e = .returned (.int .u64 ((fewM t : Nat) : Int)) ∧ Below w.heap.size w w' := by
  have h2 := h.pk.2
  have htl := t.turn_lt
  have HK := Lib.hid h
  have HT := Lib.hid hT
  have HTU := Lib.hid (fun W => cl_turn t h W)
  have HCA := Lib.hid (fun W => cl_can t h W)
  have hcw := canM_w64 h
  have HFW : Hid (fewM t = (dropL (othM t) (canM t) ((bitsList (canM t)).map Fin.val)).1) := Lib.hid (by
    unfold fewM dropL
    rw [canM_list h])
  have HLO : Hid (∀ pre suf x, bitsList (canM t) = pre ++ x :: suf → (x : Fin 64).val < 52) := Lib.hid (by
    intro pre suf x hx
    have : x.val ∈ t.cards := by rw [← canM_list h, hx]; simp
    exact (mem_cards.1 this).1)
  obtain ⟨TA, hTA⟩ : ∃ A, A = tbA t := ⟨_, rfl⟩
  have HTZ : Hid ((Tryd.prog.info? 87).map (·.size) = some TA.size) := Lib.hid (by rw [hTA]; exact size_ct)
  have HTC : Hid (∀ k, k < 4 → TA[6 + k]? = some (.int .u8 (t.cs.getD k 0 : Int))) := Lib.hid (by rw [hTA]; exact tbA_c t)
  have HTH : Hid (∀ k, k < 4 → TA[k]? = some (.int .u64 (t.h k : Int))) := Lib.hid (by rw [hTA]; exact tbA_h t)
  have HTL : Hid (TA[5]? = some (.int .u8 (t.cs.length : Int))) := Lib.hid (by rw [hTA]; rfl)
  rw [← hTA] at HTU HCA ⊢
  have hR0 := Row.new w 87 TA
  have hB0 := (Below.refl w.heap.size w).alloc (Nat.le_refl _) (.cells TA 87)
  clear h hT hTA
  go_enter Tryd.func45, Tryd.ntmps45
  go_upto_region 1 with fail
  generalize w.alloc (.cells TA 87) = w1 at *
  obtain ⟨b0, hb0⟩ : ∃ b, w.heap.size = b := ⟨_, rfl⟩
  rw [hb0] at hR0 ⊢
  clear hb0
  go_wp2_with (refine wpList_load_row rfl 87 (.tmp 1) rfl b0 rfl 87 TA (0, 0) _ hR0 Tryd.underlying87 rfl HTZ.out ?_)
  refine (HCA.out w1).mono ?_
  rintro e w2 ⟨rfl, hb2⟩
  have HR2 := Lib.hid (hR0.later hb2)
  have HB2 := Lib.hid (hB0.trans (hb2.mono hB0.size))
  clear hb2 hR0 hB0
  obtain ⟨m, hm⟩ : ∃ m, canM t = m := ⟨_, rfl⟩
  rw [hm] at hcw HFW HLO ⊢
  clear hm
  have cl := (HR2.out.cell 5).trans HTL.out
  obtain ⟨n, hn⟩ : ∃ n, t.cs.length = n := ⟨_, rfl⟩
  have HN := Lib.hid hn
  rw [hn] at cl h2
  clear hn
  go_wp2_with fail
  clear cl
  go_loopw [4, 5, 16] (fun o _ i wr => ∃ (k : Nat), k ≤ n ∧ i = .int .u8 (k : Int) ∧ o = .int .u64 ((oth1 t k : Nat) : Int) ∧ w2 = wr) (fun _ _ i _ => n - (intOf i).toNat)
  case atStart => exact ⟨0, by omega, rfl, rfl, rfl⟩
  case round =>
    obtain ⟨k, hk, rfl, rfl, rfl⟩ := hrel
    by_cases hlt : k < n
    · have hdk : (k : Int) < (n : Int) := by omega
      have e0 := (HR2.out.cell (6 + k)).trans (HTC.out k (by omega))
      have hx := HK.out.getD k
      have how := oth1_w64 (t := t) k
      have HST : Hid (oth1 t (k + 1) = lor (oth1 t k) (shl1 (t.cs.getD k 0))) := Lib.hid rfl
      obtain ⟨o, ho⟩ : ∃ o, oth1 t k = o := ⟨_, rfl⟩
      obtain ⟨x, hxx⟩ : ∃ x, t.cs.getD k 0 = x := ⟨_, rfl⟩
      rw [ho] at how HST ⊢
      rw [hxx] at e0 hx HST
      clear ho hxx
      have hrs := run_shl64 x .u8
      have hor := run_or64 o (shl1 x) how (W64.shl1 x)
      have hki : (k : Int) < 4 := by omega
      have hkw : IntKind.u8.wrap ((k : Int) + 1) = (k : Int) + 1 := by rw [IntKind.wrap_u8]; omega
      go_wp2_with fail
      go_roundw
      case rel => exact ⟨k + 1, by omega, by go_num, by rw [HST.out], trivial⟩
      case measure => simp [intOf]; omega
    · obtain rfl : k = n := by omega
      have HO2 : Hid (oth1 t k = oth2 t 0) := Lib.hid (by rw [← HN.out]; rfl)
      rw [HO2.out]
      have hnn : ¬ (k : Int) < (k : Int) := by omega
      have e0 := (HR2.out.cell 0).trans (HTH.out 0 (by omega))
      have e1 := (HR2.out.cell 1).trans (HTH.out 1 (by omega))
      have e2 := (HR2.out.cell 2).trans (HTH.out 2 (by omega))
      have e3 := (HR2.out.cell 3).trans (HTH.out 3 (by omega))
      go_wp2_with fail
      clear e0 e1 e2 e3 hnn h2 hlt hk
      go_loopw [4, 6, 7, 29] (fun o _ _ i wr => ∃ (s : Nat), s ≤ 4 ∧ i = .int .i64 (s : Int) ∧ o = .int .u64 ((oth2 t s : Nat) : Int) ∧ Row wr b0 87 TA ∧ Below w.heap.size w wr) (fun _ _ _ i _ => 4 - (intOf i).toNat)
      case atStart => exact ⟨0, by omega, rfl, rfl, HR2.out, HB2.out⟩
      case round =>
        obtain ⟨s, hs, rfl, rfl, hR, hB⟩ := hrel
        by_cases hs4 : s < 4
        · have hsi : (s : Int) < 4 := by omega
          have HRs := Lib.hid hR
          have HBs := Lib.hid hB
          have hidx : ∀ W, (Instr.index 24 (.agg #[.int .u64 (t.h 0 : Int), .int .u64 (t.h 1 : Int), .int .u64 (t.h 2 : Int), .int .u64 (t.h 3 : Int)]) (.int .i64 (s : Int))).run Tryd.prog W = .ok (.int .u64 (t.h s : Int)) W := by
            intro W
            rcases (show s = 0 ∨ s = 1 ∨ s = 2 ∨ s = 3 by omega) with rfl | rfl | rfl | rfl <;> rfl
          have hsw := HK.out.w64 s
          have how := oth2_w64 HK.out s
          have HST : Hid (oth2 t (s + 1) = if s = t.turn then oth2 t s else lor (oth2 t s) (t.h s)) := Lib.hid rfl
          have hor := run_or64 (oth2 t s) (t.h s) how hsw
          obtain ⟨o, ho⟩ : ∃ o, oth2 t s = o := ⟨_, rfl⟩
          rw [ho] at how HST hor ⊢
          clear ho
          go_upto_region 11 with fail
          have hR := HRs.out
          go_wp2_with (refine wpList_load_row rfl 87 (.tmp 1) rfl b0 rfl 87 TA (0, 0) _ hR Tryd.underlying87 rfl HTZ.out ?_)
          refine (HTU.out _).mono ?_
          rintro e w5 ⟨rfl, hb5⟩
          have HR5 := Lib.hid (HRs.out.later hb5)
          have HB5 := Lib.hid (HBs.out.trans (hb5.mono HBs.out.size))
          clear hb5 hR hB
          have hcv : IntKind.i64.wrap ((t.turn : Nat) : Int) = ((t.turn : Nat) : Int) := IntWalk.i64_in _ (by omega)
          by_cases hst : s = t.turn
          · rw [if_pos hst] at HST
            have hd : ((s : Int) != (t.turn : Int)) = false := by simp; omega
            clear hst
            go_wp2_with fail
            go_roundw
            case rel => exact ⟨s + 1, by omega, by go_num, by rw [HST.out], HR5.out, HB5.out⟩
            case measure => simp [intOf]; omega
          · rw [if_neg hst] at HST
            have hd : ((s : Int) != (t.turn : Int)) = true := by rw [bne_iff_ne]; omega
            clear hst
            go_wp2_with fail
            go_roundw
            case rel => exact ⟨s + 1, by omega, by go_num, by rw [HST.out], HR5.out, HB5.out⟩
            case measure => simp [intOf]; omega
        · obtain rfl : s = 4 := by omega
          simp only [show ((4 : Nat) : Int) = 4 from rfl]
          have HO := Lib.hid (othM_w64 HK.out)
          rw [show oth2 t 4 = othM t from rfl]
          obtain ⟨o, ho⟩ : ∃ o, othM t = o := ⟨_, rfl⟩
          rw [ho] at HO HFW ⊢
          clear ho hR
          have HBx := Lib.hid hB
          have HMW := Lib.hid hcw
          clear hB hcw
          go_wp2_with fail
          go_loopw [8, 9, 10] (fun mm la re wr => ∃ (pre : List (Fin 64)) (x : Nat), W64 x ∧ bitsList m = pre ++ bitsList x ∧ re = .int .u64 (x : Int) ∧ mm = .int .u64 ((dropL o m (pre.map Fin.val)).1 : Int) ∧ la = .int .u8 ((dropL o m (pre.map Fin.val)).2 : Int) ∧ Below w.heap.size w wr) (fun _ _ re _ => (intOf re).toNat)
          case atStart => exact ⟨[], m, HMW.out, rfl, rfl, rfl, rfl, HBx.out⟩
          case round =>
            obtain ⟨pre, x, hxw, hbl, rfl, rfl, rfl, hB⟩ := hrel
            have HBL := Lib.hid hbl
            have HBr := Lib.hid hB
            clear hbl hB
            by_cases hx0 : x = 0
            · subst hx0
              have HE : Hid (fewM t = (dropL o m (pre.map Fin.val)).1) := Lib.hid (by rw [HFW.out, HBL.out, bitsList_zero, List.append_nil])
              rw [← HE.out]
              go_wp2_with fail
              go_ret
              first | exact ⟨rfl, HBr.out⟩ | exact HBr.out
            · have hx0' : ((x : Int) != 0) = true := by rw [bne_iff_ne]; omega
              obtain ⟨hk, hcons⟩ := bitsList_cons x hx0 hxw
              have hxx : bitsList m = pre ++ ⟨Lib.ctz 64 x, hk⟩ :: bitsList (drop1 x) := by rw [HBL.out, hcons]
              have hx52 := HLO.out _ _ _ hxx
              have hlast := dropL_lt (o := o) (m := m) hxx
              have hmp := dropL_w64 o HMW.out (pre.map Fin.val)
              have HST : Hid (dropL o m ((pre ++ [(⟨Lib.ctz 64 x, hk⟩ : Fin 64)]).map Fin.val) = (if adjB o (dropL o m (pre.map Fin.val)).2 (Lib.ctz 64 x) then landn (dropL o m (pre.map Fin.val)).1 (shl1 (Lib.ctz 64 x)) else (dropL o m (pre.map Fin.val)).1, Lib.ctz 64 x)) := Lib.hid (by
                rw [List.map_append]; exact dropL_snoc o m _ _)
              have HXX : Hid (bitsList m = (pre ++ [(⟨Lib.ctz 64 x, hk⟩ : Fin 64)]) ++ bitsList (drop1 x)) := Lib.hid (by rw [hxx]; simp)
              have HFI := Lib.hid (cl_first x hxw hx0 wr (HT.out.below HT.out.pos HBr.out))
              have hdr := drop_run x hxw hx0
              have HDW := Lib.hid (drop1_w64 hxw hx0)
              have HDL := Lib.hid (drop1_lt x hx0)
              have how := HO.out
              clear hcons hxx
              generalize (⟨Lib.ctz 64 x, hk⟩ : Fin 64) = y at HST HXX
              obtain ⟨mp, hmp2⟩ : ∃ k, (dropL o m (pre.map Fin.val)).1 = k := ⟨_, rfl⟩
              obtain ⟨a, ha⟩ : ∃ k, (dropL o m (pre.map Fin.val)).2 = k := ⟨_, rfl⟩
              rw [hmp2] at hmp HST ⊢
              rw [ha] at hlast HST ⊢
              clear hmp2 ha
              dsimp only at hx52 hlast
              obtain ⟨c, hc⟩ : ∃ c, Lib.ctz 64 x = c := ⟨_, rfl⟩
              rw [hc] at hx52 hlast HST HFI
              clear hc hk
              have ha64 : a < 64 := by omega
              obtain ⟨qa, hqa⟩ : ∃ q, a / 13 = q := ⟨_, rfl⟩
              obtain ⟨qc, hqc⟩ : ∃ q, c / 13 = q := ⟨_, rfl⟩
              have hda : (a : Int) / 13 = (qa : Int) := by omega
              have hdc : (c : Int) / 13 = (qc : Int) := by omega
              have hrs := run_shl64 c .u8
              have hra := run_shl64 a .u8
              by_cases hq : a / 13 = c / 13
              · have hac : a < c := by
                  rcases hlast with ⟨h, -⟩ | h
                  · omega
                  · exact h
                have hqd : ((qa : Int) == (qc : Int)) = true := by rw [beq_iff_eq]; omega
                have ec : shl1 c = 2 ^ c := by unfold shl1; rw [if_pos (by omega)]
                have ea : shl1 a = 2 ^ a := by unfold shl1; rw [if_pos ha64]
                have hle : 2 ^ a ≤ 2 ^ c := Nat.pow_le_pow_right (by omega) (by omega)
                have hcl := W64.shl1 c
                have HADJ : Hid (adjB o a c = (land o (shl1 c - shl1 a) == 0)) := Lib.hid (by unfold adjB; rw [show (a / 13 == c / 13) = true by rw [beq_iff_eq]; exact hq, ec, ea]; rfl)
                rw [← ec, ← ea] at hle
                have hdl : W64 (shl1 c - shl1 a) := W64.of_lt (by have := hcl.lt; omega)
                have hsub : IntKind.u64.wrap ((shl1 c : Int) - (shl1 a : Int)) = ((shl1 c - shl1 a : Nat) : Int) := by have := hdl.lt; rw [IntKind.wrap_u64]; omega
                have hand := run_and64 o (shl1 c - shl1 a) how hdl
                have handn := run_andn64 mp (shl1 c) hmp hcl
                obtain ⟨r, hr⟩ : ∃ r, land o (shl1 c - shl1 a) = r := ⟨_, rfl⟩
                rw [hr] at HADJ hand
                clear hr hdl hle ec ea hac hlast hq hqa hqc
                generalize shl1 c - shl1 a = d at *
                by_cases hr0 : r = 0
                · have hrd : ((r : Int) == 0) = true := by rw [beq_iff_eq]; omega
                  have HA2 : Hid (adjB o a c = true) := Lib.hid (by rw [HADJ.out, hr0]; rfl)
                  have HS2 : Hid (dropL o m ((pre ++ [y]).map Fin.val) = (landn mp (shl1 c), c)) := Lib.hid (by rw [HST.out, HA2.out]; rfl)
                  clear hr0
                  go_wp2_with (go_at_call 50; refine HFI.out.mono ?_; rintro e w' ⟨rfl, rfl⟩)
                  go_roundw
                  case rel => exact ⟨pre ++ [y], drop1 x, HDW.out, HXX.out, by go_num, by rw [HS2.out], by rw [HS2.out], HBr.out⟩
                  case measure => have := HDL.out; simp [intOf]; omega
                · have hrd : ((r : Int) == 0) = false := by rw [beq_eq_false_iff_ne]; omega
                  have HA2 : Hid (adjB o a c = false) := Lib.hid (by rw [HADJ.out, beq_eq_false_iff_ne]; exact hr0)
                  have HS2 : Hid (dropL o m ((pre ++ [y]).map Fin.val) = (mp, c)) := Lib.hid (by rw [HST.out, HA2.out]; rfl)
                  clear hr0
                  go_wp2_with (go_at_call 50; refine HFI.out.mono ?_; rintro e w' ⟨rfl, rfl⟩)
                  go_roundw
                  case rel => exact ⟨pre ++ [y], drop1 x, HDW.out, HXX.out, by go_num, by rw [HS2.out], by rw [HS2.out], HBr.out⟩
                  case measure => have := HDL.out; simp [intOf]; omega
              · have hqd : ((qa : Int) == (qc : Int)) = false := by rw [beq_eq_false_iff_ne]; omega
                have HA2 : Hid (adjB o a c = false) := Lib.hid (by unfold adjB; rw [show (a / 13 == c / 13) = false by rw [beq_eq_false_iff_ne]; exact hq]; rfl)
                have HS2 : Hid (dropL o m ((pre ++ [y]).map Fin.val) = (mp, c)) := Lib.hid (by rw [HST.out, HA2.out]; rfl)
                clear hq hlast hqa hqc
                go_wp2_with (go_at_call 50; refine HFI.out.mono ?_; rintro e w' ⟨rfl, rfl⟩)
                go_roundw
                case rel => exact ⟨pre ++ [y], drop1 x, HDW.out, HXX.out, by go_num, by rw [HS2.out], by rw [HS2.out], HBr.out⟩
                case measure => have := HDL.out; simp [intOf]; omega
end Go.Proofs.YtnbillhodbcfbaaDoor

/- claim.shrink and claim.asItIs over this seat's program. -/
namespace Go.Proofs.YtnbillhodbcfbaaDoor
open Go.RowKit Go.Sort Go.Shelf

set_option maxHeartbeats 4000000 in
set_option maxRecDepth 10000 in
theorem cl_shrink (h : Nat → Nat) (hh : In52 h) (w : World) (hT : Tab w) : Calls Tryd.prog 46 #[.agg (deA h)] w fun e w' => e = .returned (.agg (deA (shr4 h))) ∧ Below w.heap.size w w' := by
  have HK := Lib.hid hh
  have HT := Lib.hid hT
  have hw0 := hh.w64 (s := 0) (by decide)
  have hw1 := hh.w64 (s := 1) (by decide)
  have hw2 := hh.w64 (s := 2) (by decide)
  have hw3 := hh.w64 (s := 3) (by decide)
  have hw01 := hw0.lor hw1
  have hw012 := hw01.lor hw2
  have HAW := Lib.hid hh.all
  have HL52 : Hid (∀ pre suf x, bitsList (allM h) = pre ++ x :: suf → (x : Fin 64).val < 52) := Lib.hid (by
    intro pre suf x hx
    have : x.val ∈ (bitsList (allM h)).map Fin.val := by rw [hx]; simp
    obtain ⟨s, hs, hb⟩ := (allM_bit h x.val).1 ((mem_bits hh.all).1 this)
    exact hh s hs _ hb)
  obtain ⟨DA, hDA⟩ : ∃ D, D = deA h := ⟨_, rfl⟩
  have HDE : Hid (DA[0]? = some (.int .u64 (h 0 : Int)) ∧ DA[1]? = some (.int .u64 (h 1 : Int)) ∧ DA[2]? = some (.int .u64 (h 2 : Int)) ∧ DA[3]? = some (.int .u64 (h 3 : Int))) := Lib.hid (by rw [hDA]; exact ⟨rfl, rfl, rfl, rfl⟩)
  rw [← hDA]
  have hD0 : Row (((w.alloc (.cells DA 24)).alloc (.cells #[.int .u64 0, .int .u64 0, .int .u64 0, .int .u64 0] 24)).alloc (.cells #[.int .u64 0, .int .u64 0, .int .u64 0, .int .u64 0] 24)) w.heap.size 24 DA := ((Row.new w _ _).alloc _).alloc _
  have hZ0 : Row (((w.alloc (.cells DA 24)).alloc (.cells #[.int .u64 0, .int .u64 0, .int .u64 0, .int .u64 0] 24)).alloc (.cells #[.int .u64 0, .int .u64 0, .int .u64 0, .int .u64 0] 24)) (w.heap.size + 1) 24 #[.int .u64 0, .int .u64 0, .int .u64 0, .int .u64 0] := by
    have := (Row.new (w.alloc (.cells DA 24)) 24 #[.int .u64 0, .int .u64 0, .int .u64 0, .int .u64 0]).alloc (.cells #[.int .u64 0, .int .u64 0, .int .u64 0, .int .u64 0] 24)
    rwa [World.size_alloc] at this
  have hT0 : Row (((w.alloc (.cells DA 24)).alloc (.cells #[.int .u64 0, .int .u64 0, .int .u64 0, .int .u64 0] 24)).alloc (.cells #[.int .u64 0, .int .u64 0, .int .u64 0, .int .u64 0] 24)) (w.heap.size + 1 + 1) 24 #[.int .u64 0, .int .u64 0, .int .u64 0, .int .u64 0] := by
    have := Row.new ((w.alloc (.cells DA 24)).alloc (.cells #[.int .u64 0, .int .u64 0, .int .u64 0, .int .u64 0] 24)) 24 #[.int .u64 0, .int .u64 0, .int .u64 0, .int .u64 0]
    rwa [World.size_alloc, World.size_alloc] at this
  have hB0 : Below w.heap.size w (((w.alloc (.cells DA 24)).alloc (.cells #[.int .u64 0, .int .u64 0, .int .u64 0, .int .u64 0] 24)).alloc (.cells #[.int .u64 0, .int .u64 0, .int .u64 0, .int .u64 0] 24)) := (((Below.refl _ w).alloc (Nat.le_refl _) _).alloc (by rw [World.size_alloc]; omega) _).alloc (by rw [World.size_alloc, World.size_alloc]; omega) _
  clear hh hT hDA
  go_enter Tryd.func46, Tryd.ntmps46
  go_upto_region 3 with fail
  change Code.wp _ _ _ _ (((w.alloc (.cells DA 24)).alloc (.cells #[.int .u64 0, .int .u64 0, .int .u64 0, .int .u64 0] 24)).alloc (.cells #[.int .u64 0, .int .u64 0, .int .u64 0, .int .u64 0] 24))
  generalize ((w.alloc (.cells DA 24)).alloc (.cells #[.int .u64 0, .int .u64 0, .int .u64 0, .int .u64 0] 24)).alloc (.cells #[.int .u64 0, .int .u64 0, .int .u64 0, .int .u64 0] 24) = w1 at *
  obtain ⟨b0, hb0⟩ : ∃ b, w.heap.size = b := ⟨_, rfl⟩
  have HW := Lib.hid (Nat.le_of_eq hb0)
  rw [hb0] at hD0 hZ0 hT0 ⊢
  clear hb0
  obtain ⟨b2, hb2⟩ : ∃ b, b0 + 1 = b := ⟨_, rfl⟩
  obtain ⟨bT, hbT⟩ : ∃ b, b2 + 1 = b := ⟨_, rfl⟩
  rw [hb2] at hZ0 hT0 ⊢
  rw [hbT] at hT0 ⊢
  have HNE : Hid (b0 ≠ bT ∧ b2 ≠ bT ∧ w.heap.size ≤ bT) := Lib.hid ⟨by omega, by omega, by have := HW.out; omega⟩
  have HNB : Hid (w.heap.size ≤ b2) := Lib.hid (by have := HW.out; omega)
  clear hb2 hbT
  have d0 := hD0.cell 0
  have d1 := hD0.cell 1
  have d2 := hD0.cell 2
  have d3 := hD0.cell 3
  rw [HDE.out.1] at d0
  rw [HDE.out.2.1] at d1
  rw [HDE.out.2.2.1] at d2
  rw [HDE.out.2.2.2] at d3
  have r1 := run_or64 (h 0) (h 1) hw0 hw1
  have r2 := run_or64 (lor (h 0) (h 1)) (h 2) hw01 hw2
  have r3 := run_or64 (lor (lor (h 0) (h 1)) (h 2)) (h 3) hw012 hw3
  go_wp2_with fail
  clear d0 d1 d2 d3 r1 r2 r3 hw0 hw1 hw2 hw3 hw01 hw012
  rw [show lor (lor (lor (h 0) (h 1)) (h 2)) (h 3) = allM h from rfl]
  have hT1 : Row w1 bT 24 (deA (shH (allM h) h (([] : List (Fin 64)).map Fin.val))) := hT0
  have HSH : Hid (shr4 h = shH (allM h) h ((bitsList (allM h)).map Fin.val)) := Lib.hid rfl
  obtain ⟨all, hal⟩ : ∃ a, allM h = a := ⟨_, rfl⟩
  rw [hal] at HAW HL52 hT1 HSH ⊢
  clear hal hT0
  go_loopw [4, 5, 6] (fun s p r wr => ∃ (pre : List (Fin 64)) (x : Nat), W64 x ∧ bitsList all = pre ++ bitsList x ∧ r = .int .u64 (x : Int) ∧ s = .int .u8 ((shSt (pre.map Fin.val)).1 : Int) ∧ p = .int .u8 ((shSt (pre.map Fin.val)).2 : Int) ∧ Row wr b0 24 DA ∧ Row wr b2 24 #[.int .u64 0, .int .u64 0, .int .u64 0, .int .u64 0] ∧ Row wr bT 24 (deA (shH all h (pre.map Fin.val))) ∧ Below w.heap.size w wr) (fun _ _ r _ => (intOf r).toNat)
  case atStart => exact ⟨[], all, HAW.out, rfl, rfl, rfl, rfl, hD0, hZ0, hT1, hB0⟩
  case round =>
    clear hD0 hZ0 hT1 hB0
    obtain ⟨pre, x, hxw, hbl, rfl, rfl, rfl, hd, hz, ht, hB⟩ := hrel
    have HBL := Lib.hid hbl
    have HD := Lib.hid hd
    have HZ := Lib.hid hz
    have HTo := Lib.hid ht
    have HBr := Lib.hid hB
    clear hbl hd hz ht hB
    by_cases hx0 : x = 0
    · subst hx0
      have HE : Hid (shH all h (pre.map Fin.val) = shr4 h) := Lib.hid (by rw [HSH.out, HBL.out, bitsList_zero, List.append_nil])
      rw [HE.out] at HTo
      obtain ⟨RA, hRA⟩ : ∃ R, R = deA (shr4 h) := ⟨_, rfl⟩
      have HRZ : Hid ((Tryd.prog.info? 24).map (·.size) = some RA.size ∧ RA.size = 4 ∧ RA.all (·.oneCell') = true) := Lib.hid (by rw [hRA]; exact ⟨size_de, rfl, deA_one _⟩)
      rw [← hRA] at HTo
      have HRA := Lib.hid hRA
      clear hRA
      have ht := HTo.out
      go_upto_region 16 with fail
      go_wp2_with (first
        | refine wpList_load_row rfl 24 (.tmp 3) rfl bT rfl 24 RA (0, 0) _ ht Tryd.underlying24 rfl HRZ.out.1 ?_
        | refine wpList_store_row rfl 24 (.tmp 2) (.tmp 56) rfl b2 RA rfl rfl 24 _ HZ.out HRZ.out.1 (by rw [HRZ.out.2.1]; rfl) HRZ.out.2.2 ?_)
      refine bodyPost_ret (v := .agg RA) (results_cell1 Tryd.results46 _ _ b2 _ RA (0, 0) _ rfl (setRow_heap _ _ _ _ _ _ HZ.out) Tryd.underlying24 rfl HRZ.out.1) rfl ⟨by rw [HRA.out], below_setRow HBr.out HNB.out _⟩
    · have hx0' : ((x : Int) != 0) = true := by rw [bne_iff_ne]; omega
      obtain ⟨hk, hcons⟩ := bitsList_cons x hx0 hxw
      have hxx : bitsList all = pre ++ ⟨Lib.ctz 64 x, hk⟩ :: bitsList (drop1 x) := by rw [HBL.out, hcons]
      have hx52 := HL52.out _ _ _ hxx
      have hP := shP_low hxx hx52
      have HS : Hid (shSt ((pre ++ [(⟨Lib.ctz 64 x, hk⟩ : Fin 64)]).map Fin.val) = shS (shSt (pre.map Fin.val)) (Lib.ctz 64 x)) := Lib.hid (by rw [List.map_append]; exact shSt_snoc _ _)
      have HH : Hid (∀ i, shH all h ((pre ++ [(⟨Lib.ctz 64 x, hk⟩ : Fin 64)]).map Fin.val) i = lor (shH all h (pre.map Fin.val) i) (bitPut (h i) (Lib.ctz 64 x) (low all (Lib.ctz 64 x)))) := Lib.hid (fun i => by rw [List.map_append]; exact shH_snoc all h _ _ i)
      have HTW : Hid (∀ i, W64 (shH all h (pre.map Fin.val) i)) := Lib.hid fun i => shH_w64 ..
      have hl52 : low all (Lib.ctz 64 x) < 52 := by
        have h2 := rk_lt all (Lib.ctz 64 x)
        dsimp only at hx52
        unfold low
        omega
      have HXX : Hid (bitsList all = (pre ++ [(⟨Lib.ctz 64 x, hk⟩ : Fin 64)]) ++ bitsList (drop1 x)) := Lib.hid (by rw [hxx]; simp)
      have HFI := Lib.hid (cl_first x hxw hx0 wr (HT.out.below HT.out.pos HBr.out))
      have hdr := drop_run x hxw hx0
      have HDW := Lib.hid (drop1_w64 hxw hx0)
      have HDL := Lib.hid (drop1_lt x hx0)
      dsimp only at hx52 hP
      clear hcons hxx
      generalize (⟨Lib.ctz 64 x, hk⟩ : Fin 64) = y at HS HXX HH
      obtain ⟨T, hTT⟩ : ∃ T, shH all h (pre.map Fin.val) = T := ⟨_, rfl⟩
      obtain ⟨st, hst⟩ : ∃ t, shSt (pre.map Fin.val) = t := ⟨_, rfl⟩
      obtain ⟨c, hc⟩ : ∃ c, Lib.ctz 64 x = c := ⟨_, rfl⟩
      obtain ⟨lc, hlc⟩ : ∃ y, low all (Lib.ctz 64 x) = y := ⟨_, rfl⟩
      rw [hTT] at HTW HH HTo
      rw [hst] at hP HS ⊢
      rw [hlc] at hl52 hP HH
      rw [hc] at hP hx52 HS HH HFI
      clear hTT hst hc hlc hk
      obtain ⟨x', hx'⟩ : ∃ z, drop1 x = z := ⟨_, rfl⟩
      rw [hx'] at hdr HDW HDL HXX
      clear hx'
      obtain ⟨q, hq⟩ : ∃ q, c / 13 = q := ⟨_, rfl⟩
      have hdc : (c : Int) / 13 = (q : Int) := by omega
      have hq4 : q < 4 := by omega
      unfold shP at hP
      rw [hq] at hP
      have HQ := Lib.hid hq
      obtain ⟨s, pl⟩ := st
      dsimp only at hP ⊢
      clear hq
      by_cases hqs : q = s
      · have HS2 : Hid (shSt ((pre ++ [y]).map Fin.val) = (s, pl + 1)) := Lib.hid (by rw [HS.out]; unfold shS; rw [HQ.out, if_pos hqs])
        rw [if_pos hqs] at hP
        subst hP
        have hqd : ((q : Int) != (s : Int)) = false := by rw [bne_eq_false_iff_eq, hqs]
        clear hqs
        obtain ⟨lc, hlc⟩ : ∃ z, pl = z := ⟨_, rfl⟩
        rw [hlc] at HS2 HH hl52 ⊢
        clear hlc
        have d0 := HD.out.cell 0
        have d1 := HD.out.cell 1
        have d2 := HD.out.cell 2
        have d3 := HD.out.cell 3
        rw [HDE.out.1] at d0
        rw [HDE.out.2.1] at d1
        rw [HDE.out.2.2.1] at d2
        rw [HDE.out.2.2.2] at d3
        have HT0 : Hid (Row wr bT 24 (deA fun j => if j < 0 then lor (T j) (bitPut (h j) c lc) else T j)) := Lib.hid (by rw [show (deA fun j => if j < 0 then lor (T j) (bitPut (h j) c lc) else T j) = deA T from deA_congr fun i _ => if_neg (Nat.not_lt_zero i)]; exact HTo.out)
        go_wp2_with (go_at_call 50; refine HFI.out.mono ?_; rintro e w' ⟨rfl, rfl⟩)
        clear d0 d1 d2 d3
        go_loopw [8, 9, 38] (fun _ _ i wr => ∃ (k : Nat), k ≤ 4 ∧ i = .int .i64 (k : Int) ∧ Row wr b0 24 DA ∧ Row wr b2 24 #[.int .u64 0, .int .u64 0, .int .u64 0, .int .u64 0] ∧ Row wr bT 24 (deA fun j => if j < k then lor (T j) (bitPut (h j) c lc) else T j) ∧ Below w.heap.size w wr) (fun _ _ i _ => 4 - (intOf i).toNat)
        case atStart => exact ⟨0, by omega, rfl, HD.out, HZ.out, HT0.out, HBr.out⟩
        case round =>
          clear HD HZ HTo HT0 HBr
          obtain ⟨k, hk, rfl, hd, hz, ht, hB⟩ := hrel
          have HD := Lib.hid hd
          have HZ := Lib.hid hz
          have HTo := Lib.hid ht
          have HBr := Lib.hid hB
          clear hd hz ht hB
          by_cases hk4 : k < 4
          · have hki : (k : Int) < 4 := by omega
            have hidx := deA_ix h hk4
            have hhw := HK.out.w64 hk4
            have htk := HTW.out k
            have ck : wr.cell? ⟨bT, k, none⟩ = some (.int .u64 (T k : Int)) := (HTo.out.cell k).trans (by rw [deA_at _ hk4]; simp)
            have fk := HTo.out.frozen k
            have hsr : (h k : Int) / 2 ^ c = ((shr (h k) c : Nat) : Int) := by unfold shr; rw [Nat.shiftRight_eq_div_pow]; simp
            have hba := run_bit64 (h k) c hhw
            have hsl := wrap_bitPut (h k) c hl52
            have hor := run_or64 (T k) (bitPut (h k) c lc) htk (bitPut_w64 ..)
            have HN : Hid (Row (wr.setCell ⟨bT, k, none⟩ (.int .u64 ((lor (T k) (bitPut (h k) c lc) : Nat) : Int))) bT 24 (deA fun j => if j < k + 1 then lor (T j) (bitPut (h j) c lc) else T j)) := Lib.hid (by
              have := HTo.out.set k (.int .u64 ((lor (T k) (bitPut (h k) c lc) : Nat) : Int))
              rw [deA_set T (fun j => lor (T j) (bitPut (h j) c lc)) hk4] at this
              exact this)
            have HD2 := Lib.hid (HD.out.other (i := k) (v := .int .u64 ((lor (T k) (bitPut (h k) c lc) : Nat) : Int)) HNE.out.1)
            have HZ2 := Lib.hid (HZ.out.other (i := k) (v := .int .u64 ((lor (T k) (bitPut (h k) c lc) : Nat) : Int)) HNE.out.2.1)
            have HB2 := Lib.hid (HBr.out.setCell (p := ⟨bT, k, none⟩) HNE.out.2.2 (.int .u64 ((lor (T k) (bitPut (h k) c lc) : Nat) : Int)))
            go_wp2_with fail
            go_roundw
            case rel => exact ⟨k + 1, by omega, by go_num, HD2.out, HZ2.out, HN.out, HB2.out⟩
            case measure => simp [intOf]; omega
          · obtain rfl : k = 4 := by omega
            simp only [show ((4 : Nat) : Int) = 4 from rfl]
            have hT4 : (deA fun j => if j < 4 then lor (T j) (bitPut (h j) c lc) else T j) = deA (shH all h ((pre ++ [y]).map Fin.val)) := deA_congr fun i hi => by rw [if_pos hi, HH.out]
            have HTN : Hid (Row wr bT 24 (deA (shH all h ((pre ++ [y]).map Fin.val)))) := Lib.hid (by rw [← hT4]; exact HTo.out)
            clear hT4
            have hlw : IntKind.u8.wrap ((lc : Int) + 1) = (lc : Int) + 1 := by rw [IntKind.wrap_u8]; omega
            go_wp2_with fail
            go_roundw
            case rel => exact ⟨pre ++ [y], x', HDW.out, HXX.out, by go_num, by rw [HS2.out], by rw [HS2.out]; go_num, HD.out, HZ.out, HTN.out, HBr.out⟩
            case measure => have := HDL.out; simp [intOf]; omega
      · have HS2 : Hid (shSt ((pre ++ [y]).map Fin.val) = (q, lc + 1)) := Lib.hid (by rw [HS.out]; unfold shS; rw [HQ.out, if_neg hqs]; rw [if_neg hqs] at hP; rw [hP])
        rw [if_neg hqs] at hP
        have hqd : ((q : Int) != (s : Int)) = true := by rw [bne_iff_ne]; omega
        have hmul : (13 : Int) * (q : Int) = (lc : Int) := by omega
        have hmw : IntKind.u8.wrap (lc : Int) = (lc : Int) := by rw [IntKind.wrap_u8]; omega
        clear hqs hP
        have d0 := HD.out.cell 0
        have d1 := HD.out.cell 1
        have d2 := HD.out.cell 2
        have d3 := HD.out.cell 3
        rw [HDE.out.1] at d0
        rw [HDE.out.2.1] at d1
        rw [HDE.out.2.2.1] at d2
        rw [HDE.out.2.2.2] at d3
        have HT0 : Hid (Row wr bT 24 (deA fun j => if j < 0 then lor (T j) (bitPut (h j) c lc) else T j)) := Lib.hid (by rw [show (deA fun j => if j < 0 then lor (T j) (bitPut (h j) c lc) else T j) = deA T from deA_congr fun i _ => if_neg (Nat.not_lt_zero i)]; exact HTo.out)
        go_wp2_with (go_at_call 50; refine HFI.out.mono ?_; rintro e w' ⟨rfl, rfl⟩)
        clear d0 d1 d2 d3
        go_loopw [8, 9, 38] (fun _ _ i wr => ∃ (k : Nat), k ≤ 4 ∧ i = .int .i64 (k : Int) ∧ Row wr b0 24 DA ∧ Row wr b2 24 #[.int .u64 0, .int .u64 0, .int .u64 0, .int .u64 0] ∧ Row wr bT 24 (deA fun j => if j < k then lor (T j) (bitPut (h j) c lc) else T j) ∧ Below w.heap.size w wr) (fun _ _ i _ => 4 - (intOf i).toNat)
        case atStart => exact ⟨0, by omega, rfl, HD.out, HZ.out, HT0.out, HBr.out⟩
        case round =>
          clear HD HZ HTo HT0 HBr
          obtain ⟨k, hk, rfl, hd, hz, ht, hB⟩ := hrel
          have HD := Lib.hid hd
          have HZ := Lib.hid hz
          have HTo := Lib.hid ht
          have HBr := Lib.hid hB
          clear hd hz ht hB
          by_cases hk4 : k < 4
          · have hki : (k : Int) < 4 := by omega
            have hidx := deA_ix h hk4
            have hhw := HK.out.w64 hk4
            have htk := HTW.out k
            have ck : wr.cell? ⟨bT, k, none⟩ = some (.int .u64 (T k : Int)) := (HTo.out.cell k).trans (by rw [deA_at _ hk4]; simp)
            have fk := HTo.out.frozen k
            have hsr : (h k : Int) / 2 ^ c = ((shr (h k) c : Nat) : Int) := by unfold shr; rw [Nat.shiftRight_eq_div_pow]; simp
            have hba := run_bit64 (h k) c hhw
            have hsl := wrap_bitPut (h k) c hl52
            have hor := run_or64 (T k) (bitPut (h k) c lc) htk (bitPut_w64 ..)
            have HN : Hid (Row (wr.setCell ⟨bT, k, none⟩ (.int .u64 ((lor (T k) (bitPut (h k) c lc) : Nat) : Int))) bT 24 (deA fun j => if j < k + 1 then lor (T j) (bitPut (h j) c lc) else T j)) := Lib.hid (by
              have := HTo.out.set k (.int .u64 ((lor (T k) (bitPut (h k) c lc) : Nat) : Int))
              rw [deA_set T (fun j => lor (T j) (bitPut (h j) c lc)) hk4] at this
              exact this)
            have HD2 := Lib.hid (HD.out.other (i := k) (v := .int .u64 ((lor (T k) (bitPut (h k) c lc) : Nat) : Int)) HNE.out.1)
            have HZ2 := Lib.hid (HZ.out.other (i := k) (v := .int .u64 ((lor (T k) (bitPut (h k) c lc) : Nat) : Int)) HNE.out.2.1)
            have HB2 := Lib.hid (HBr.out.setCell (p := ⟨bT, k, none⟩) HNE.out.2.2 (.int .u64 ((lor (T k) (bitPut (h k) c lc) : Nat) : Int)))
            go_wp2_with fail
            go_roundw
            case rel => exact ⟨k + 1, by omega, by go_num, HD2.out, HZ2.out, HN.out, HB2.out⟩
            case measure => simp [intOf]; omega
          · obtain rfl : k = 4 := by omega
            simp only [show ((4 : Nat) : Int) = 4 from rfl]
            have hT4 : (deA fun j => if j < 4 then lor (T j) (bitPut (h j) c lc) else T j) = deA (shH all h ((pre ++ [y]).map Fin.val)) := deA_congr fun i hi => by rw [if_pos hi, HH.out]
            have HTN : Hid (Row wr bT 24 (deA (shH all h ((pre ++ [y]).map Fin.val)))) := Lib.hid (by rw [← hT4]; exact HTo.out)
            clear hT4
            have hlw : IntKind.u8.wrap ((lc : Int) + 1) = (lc : Int) + 1 := by rw [IntKind.wrap_u8]; omega
            go_wp2_with fail
            go_roundw
            case rel => exact ⟨pre ++ [y], x', HDW.out, HXX.out, by go_num, by rw [HS2.out], by rw [HS2.out]; go_num, HD.out, HZ.out, HTN.out, HBr.out⟩
            case measure => have := HDL.out; simp [intOf]; omega
theorem cl_asItIs (h : Nat → Nat) (w : World) : Calls Tryd.prog 43 #[.agg (deA h)] w fun e w' => e = .returned (.agg (deA h)) ∧ Below w.heap.size w w' := by
  obtain ⟨DA, hDA⟩ : ∃ D, D = deA h := ⟨_, rfl⟩
  have HRZ : Hid ((Tryd.prog.info? 24).map (·.size) = some DA.size ∧ DA.size = 4 ∧ DA.all (·.oneCell') = true) := Lib.hid (by rw [hDA]; exact ⟨size_de, rfl, deA_one _⟩)
  rw [← hDA]
  have hD0 : Row ((w.alloc (.cells DA 24)).alloc (.cells #[.int .u64 0, .int .u64 0, .int .u64 0, .int .u64 0] 24)) w.heap.size 24 DA := (Row.new w _ _).alloc _
  have hZ0 : Row ((w.alloc (.cells DA 24)).alloc (.cells #[.int .u64 0, .int .u64 0, .int .u64 0, .int .u64 0] 24)) (w.heap.size + 1) 24 #[.int .u64 0, .int .u64 0, .int .u64 0, .int .u64 0] := by
    have := Row.new (w.alloc (.cells DA 24)) 24 #[.int .u64 0, .int .u64 0, .int .u64 0, .int .u64 0]
    rwa [World.size_alloc] at this
  have hB0 : Below w.heap.size w ((w.alloc (.cells DA 24)).alloc (.cells #[.int .u64 0, .int .u64 0, .int .u64 0, .int .u64 0] 24)) := ((Below.refl _ w).alloc (Nat.le_refl _) _).alloc (by rw [World.size_alloc]; omega) _
  clear hDA
  go_enter Tryd.func43, Tryd.ntmps43
  go_upto_region 1 with fail
  change Code.wp _ _ _ _ ((w.alloc (.cells DA 24)).alloc (.cells #[.int .u64 0, .int .u64 0, .int .u64 0, .int .u64 0] 24))
  generalize (w.alloc (.cells DA 24)).alloc (.cells #[.int .u64 0, .int .u64 0, .int .u64 0, .int .u64 0] 24) = w1 at *
  go_wp2_with (first
    | refine wpList_load_row rfl 24 (.tmp 1) rfl w.heap.size rfl 24 DA (0, 0) _ hD0 Tryd.underlying24 rfl HRZ.out.1 ?_
    | refine wpList_store_row rfl 24 (.tmp 2) (.tmp 3) rfl (w.heap.size + 1) DA rfl rfl 24 _ hZ0 HRZ.out.1 (by rw [HRZ.out.2.1]; rfl) HRZ.out.2.2 ?_)
  refine bodyPost_ret (v := .agg DA) (results_cell1 Tryd.results43 _ _ (w.heap.size + 1) _ DA (0, 0) _ rfl (setRow_heap _ _ _ _ _ _ hZ0) Tryd.underlying24 rfl HRZ.out.1) rfl ⟨rfl, below_setRow hB0 (Nat.le_succ _) _⟩
end Go.Proofs.YtnbillhodbcfbaaDoor
