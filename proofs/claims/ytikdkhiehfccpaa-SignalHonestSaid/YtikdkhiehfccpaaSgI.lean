/- Contract of signal.Check over this seat's program. -/
import Derived.Test.YtikdkhiehfccpaaSgH
import Derived.Deep.CutRange
import Derived.Test.YtikdkhiehfccpaaRely
namespace Go.Proofs.Ytikdkhiehfccpaa
open Go.RowKit Go.Sort Go.Shelf Cnt Go.Maps

set_option maxHeartbeats 4000000 in
set_option maxRecDepth 10000 in
theorem sg_Check_yes (left nn : Nat) (hl : left < 4503599627370496) (hn : nn ≤ 13) (a : Option Addr) (la ca : Nat) (ls : List Rl) (b : Option Addr) (lb cb : Nat) (cs : List Cm) (w : World) (ha : Rls w a la ls) (hok : rightS ls = true) (hb : Cms w b lb cs) (hann : annV cs = true) :
    Calls Try.prog 14 #[.int .u64 (left : Int), .int .i64 (nn : Int), .slice a la ca, .slice b lb cb] w fun e w' =>
      (∃ v, e = .returned (.tuple #[v, .int .i64 0]) ∧ OwnF w' w.heap.size v (checkL (cnV left (nn : Int) ls) (fun c => gvC (deck left) nn (fitP c.rs) ls c.s) (cntF (deck left) nn QT) cs)) ∧ Below w.heap.size w w' := by
  have HA := Lib.hid ha
  have HC := Lib.hid hb
  have HOK := Lib.hid hok
  have HANN := Lib.hid hann
  have HL := Lib.hid hl
  have HN := Lib.hid hn
  have HLC : Hid (lb ≤ 20) := Lib.hid (by
    have h := (Bool.and_eq_true_iff.1 hann).1
    have := hb.length
    simp at h; omega)
  have hmm := @run_makeMap Try.prog
  have HSUM := Lib.hid (gv_sum (deck left) nn QT ls hok)
  have HPART := Lib.hid (gv_part left (nn : Int) ls hok)
  have HLE := Lib.hid (gv_le left nn)
  have HCV : Hid (∀ s : Nat, cnV left (nn : Int) ls s = gvC (deck left) nn QT ls (s : Int)) := Lib.hid fun s => rfl
  obtain ⟨cnt, HCNT⟩ : ∃ f, Hid (cnV left (nn : Int) ls = f) := ⟨_, Lib.hid rfl⟩
  obtain ⟨fit, HFIT⟩ : ∃ f : Cm → Nat, Hid ((fun c : Cm => gvC (deck left) nn (fitP c.rs) ls c.s) = f) := ⟨_, Lib.hid rfl⟩
  obtain ⟨T, HT⟩ : ∃ x, Hid (cntF (deck left) nn QT = x) := ⟨_, Lib.hid rfl⟩
  have HS10 : Hid (sumN 10 cnt = T) := Lib.hid (by rw [← HCNT.out, ← HT.out]; exact HSUM.out)
  rw [HCNT.out] at HPART HCV
  have HCB : Hid (∀ s : Nat, cnt s ≤ 4503599627370496) := Lib.hid fun s => by rw [HCV.out]; exact HLE.out _
  have HTB : Hid (T ≤ 4503599627370496) := Lib.hid (by rw [← HT.out]; exact HLE.out _)
  have HFB : Hid (∀ c : Cm, fit c ≤ 4503599627370496) := Lib.hid fun c => by rw [← HFIT.out]; exact HLE.out _
  rw [HFIT.out, HT.out]
  clear ha hb hok hann hl hn HSUM
  go_enter Try.func14, Try.ntmps14
  go_wp2_with fail
  refine (sg_Counts_yes left nn HL.out HN.out a la ca ls _ HA.out HOK.out).mono ?_
  rintro e w1 ⟨⟨b1, rfl, hb1l, hr1⟩, hb1⟩
  rw [HCNT.out] at hr1
  have HR1 := Lib.hid hr1
  have HB1 := Lib.hid hb1
  have H1L := Lib.hid hb1l
  clear hr1 hb1 hb1l
  go_wp2_with fail
  refine (sg_Announced b lb cb cs _ (HC.out.below (Nat.le_refl _) HB1.out)).mono ?_
  rintro e w2 ⟨rfl, hb2⟩
  rw [HANN.out]
  have HR2 := Lib.hid (HR1.out.later hb2)
  have HB2 := Lib.hid (HB1.out.trans (hb2.mono HB1.out.size))
  clear hb2 HR1 HB1
  go_wp2_with fail
  go_loopw [12, 14, 39] (fun t _ i wr => ∃ (k : Nat), k ≤ 10 ∧ i = .int .i64 (k : Int) ∧ t = .int .i64 ((sumN k cnt : Nat) : Int) ∧ w2 = wr) (fun _ _ i _ => 10 - (intOf i).toNat)
  case atStart => exact ⟨0, by omega, rfl, rfl, rfl⟩
  case round =>
    obtain ⟨k, hk, rfl, rfl, rfl⟩ := hrel
    by_cases hlt : k < 10
    · have hd : decide ((k : Int) < 10) = true := by simp; omega
      have hki : (k : Int) < 10 := by omega
      have hc := (HR2.out.cell k).trans (tab_get 10 cnt k hlt)
      have hp := HPART.out (k + 1) (by omega)
      have HSS : Hid (sumN (k + 1) cnt = sumN k cnt + cnt k) := Lib.hid rfl
      rw [HSS.out] at hp
      generalize sumN k cnt = x at *
      generalize cnt k = y at *
      go_wp2_with fail
      exact ⟨⟨k + 1, by omega, by simp, by rw [HSS.out]; simp, trivial⟩, by simp [intOf]; omega⟩
    · obtain rfl : k = 10 := by omega
      simp only [show ((10 : Nat) : Int) = 10 from rfl]
      rw [HS10.out]
      go_wp2_with fail
      have hK0 : KW w (w2.heap.size + 1) b1 w2.heap.size cnt 0 (knOf (cs.take 0)) (.slice none 0 0) (listTo (fAt cnt fit T cs) 0) (w2.alloc (.map #[] 0)) :=
        ⟨HB2.out.alloc HB2.out.size _, HR2.out.alloc _, AM.made w2, Owns.nil encF_len _ _, H1L.out, HR2.out.lt, by omega, by simp⟩
      have HK0 := Lib.hid hK0
      clear hK0
      generalize w2.alloc (.map #[] 0) = w3 at *
      generalize w2.heap.size = bm at *
      generalize bm + 1 = B at *
      go_loopw [15, 17, 18, 19, 20, 50] (fun v _ _ _ _ i wr => ∃ (k : Nat), k ≤ lb ∧ i = .int .i64 (k : Int) ∧ KW w B b1 bm cnt k (knOf (cs.take k)) v (listTo (fAt cnt fit T cs) k) wr) (fun _ _ _ _ _ i _ => lb - (intOf i).toNat)
      case atStart => exact ⟨0, by omega, rfl, HK0.out⟩
      case round =>
        clear HK0
        obtain ⟨k, hk, rfl, hK⟩ := hrel
        by_cases hlt : k < lb
        · obtain ⟨bb, off, x, ai, ci, rfl, hx, c0, c1, c2, c3, hR⟩ := HC.out.at hlt
          have cell : ∀ o, wr.cell? ⟨bb, o, none⟩ = w.cell? ⟨bb, o, none⟩ := fun o => hK.below.cell (p := ⟨bb, o, none⟩) (by
            rcases HC.out.cells with h | ⟨b', off', e, hlt, _⟩
            · omega
            · obtain ⟨rfl, rfl⟩ : bb = b' ∧ off = off' := by simpa using e
              exact hlt)
          rw [← cell] at c0 c1 c2 c3
          have HXX := Lib.hid hx
          have hxo : x.ok = true := List.all_eq_true.1 (Bool.and_eq_true_iff.1 HANN.out).2 x (List.mem_of_getElem? hx)
          have HKN := Lib.hid (kn_succ hx)
          have HTO : Hid (listTo (fAt cnt fit T cs) (k + 1) = listTo (fAt cnt fit T cs) k ++ fC cnt fit T k x) := Lib.hid (by
            show listTo (fAt cnt fit T cs) k ++ fAt cnt fit T cs k = _
            unfold fAt
            rw [hx])
          obtain ⟨xs, lo, hi, rs⟩ := x
          simp only [Cm.ok, namedB, Bool.and_eq_true, decide_eq_true_eq] at hxo
          obtain ⟨⟨⟨⟨⟨q1, q2⟩, q3⟩, q4⟩, q5⟩, q6⟩ := hxo
          obtain ⟨sn, rfl⟩ : ∃ sn : Nat, xs = (sn : Int) := ⟨xs.toNat, by omega⟩
          have HRS := Lib.hid q3
          have HRC := Lib.hid hR
          have HSN : Hid ((sn : Int) ≠ 0) := Lib.hid (by omega)
          have HLH := Lib.hid (And.intro q4 (And.intro q5 q6))
          have HSB := Lib.hid (And.intro q1 q2)
          have hd : decide ((k : Int) < (lb : Int)) = true := by simp; omega
          have hs10 : sn < 10 := by omega
          have hk20 : k < 20 := by have := HLC.out; omega
          have hs10i : (sn : Int) < 10 := by omega
          have HFV : Hid (gvC (deck left) nn (fitP rs) ls (sn : Int) = fit ⟨(sn : Int), lo, hi, rs⟩) := Lib.hid (by rw [← HFIT.out])
          obtain ⟨fv, HFVV⟩ : ∃ n, Hid (fit ⟨(sn : Int), lo, hi, rs⟩ = n) := ⟨_, Lib.hid rfl⟩
          rw [HFVV.out] at HFV
          have hc4 := (hK.row.cell sn).trans (tab_get 10 cnt sn hs10)
          have HK4 : Hid (KC w B b1 bm cnt k (knOf (cs.take k)) wr.heap.size #[.int .i64 (sn : Int), .int .i64 lo, .int .i64 hi, .slice ai rs.length ci] u15 (listTo (fAt cnt fit T cs) k) (wr.alloc (.cells #[.int .i64 (sn : Int), .int .i64 lo, .int .i64 hi, .slice ai rs.length ci] 29))) := Lib.hid
            ⟨hK.later ((Below.refl _ _).alloc (Nat.le_refl _) _), Row.new _ _ _, fun g hg => by have := (World.ownsRow.lt hK.out.2 g hg).2; omega, hK.l3⟩
          clear hx q1 q2 q3 q4 q5 q6 cell hR hK
          go_upto_region 17 with (refine am_update rfl (.tmp 55) (.tmp 57) (.const (.bool true)) rfl bm k (knOf (cs.take k)) rfl HK4.out.kw.map (by have := HLC.out; omega) (sn : Int) (by omega) HSB.out.2 rfl rfl ?_
                                  intro w5 h1 h2
                                  rw [HKN.out] at h1
                                  have HK6 := Lib.hid (HK4.out.upd h1 h2)
                                  have hc5 := (HK6.out.kw.row.cell sn).trans (tab_get 10 cnt sn hs10)
                                  have hc6 : w5.cell? ⟨wr.heap.size, 0, none⟩ = some (.int .i64 (sn : Int)) := HK6.out.clm.cell 0
                                  clear h1 h2)
          generalize wr.heap.size = bc at *
          -- REGION17
          refine wp_region_relies (fun w1 => KC w B b1 bm cnt (k + 1) (knOf (cs.take (k + 1))) bc #[.int .i64 (sn : Int), .int .i64 lo, .int .i64 hi, .slice ai rs.length ci] u15 (listTo (fAt cnt fit T cs) k) w1)
            (fun ix v w1 => match ix with
              | 0 => v = .slice a la ca
              | 1 => v = .pointer (some ⟨bc, 0, none⟩)
              | 2 => v = .int .i64 (sn : Int)
              | 3 => v = .int .i64 (T : Int)
              | 4 => v = .int .u64 (left : Int)
              | 5 => v = .int .i64 (nn : Int)
              | 6 => v = .pointer (some ⟨bc, 3, none⟩)
              | 7 => v = .slice ai rs.length ci
              | 8 => ∃ bl, v = .func (.func 54) #[] #[.pointer (some ⟨bl, 0, none⟩), .pointer (some ⟨bl + 1, 0, none⟩), .pointer (some ⟨bl + 1 + 1, 0, none⟩)] ∧ Row w1 bl 22 #[.int .u64 (left : Int)] ∧ Row w1 (bl + 1) 3 #[.int .i64 (nn : Int)] ∧ Row w1 (bl + 1 + 1) 27 #[.slice ai rs.length ci]
              | 9 => v = .int .i64 (fv : Int)
              | 10 => v = .int .i64 (fv : Int)
              | _ => True) (by kernel_rfl) (by kernel_rfl) (by kernel_rfl) (by kernel_rfl) ?_ ?_ ?obls ?fini
          · intro i v w1 w2 h hb
            rcases i with _ | _ | _ | _ | _ | _ | _ | _ | _ | _ | _ | i
            · exact h
            · exact h
            · exact h
            · exact h
            · exact h
            · exact h
            · exact h
            · exact h
            · obtain ⟨bl, h1, h2, h3, h4⟩ := h; exact ⟨bl, h1, h2.later hb, h3.later hb, h4.later hb⟩
            · exact h
            · exact h
            · trivial
          · exact HK6.out.later (Below.refl _ _).drew
          case obls =>
            refine ⟨?_, ?_, ?_, ?_, ?_, ?_, ?_, ?_, ?_, ?_, ?_, trivial⟩
            · -- 0: 63 := Op.move t2
              intro ρ w1 hC hf
              show OpOk _ _ _ _ _
              have f2 : ρ (.tmp 2) = .slice a la ca := hf.1 2 (by simp [Op.operands])
              refine ok_value (v := .slice a la ca) (w' := w1) ?_ ⟨Below.refl _ _, hC, rfl⟩
              simp [execOp, f2]
            · -- 1: 64 := Op.fieldAddr 29 t18 0
              intro ρ w1 hC hf
              show OpOk _ _ _ _ _
              have f18 : ρ (.tmp 18) = .pointer (some ⟨bc, 0, none⟩) := hf.1 18 (by simp [Op.operands])
              refine ok_value (v := .pointer (some ⟨bc, 0, none⟩)) (w' := w1) ?_ ⟨Below.refl _ _, hC, rfl⟩
              simp [execOp, f18, go_sem]
            · -- 2: 65 := Op.load 3 t64
              intro ρ w1 hC hf
              show OpOk _ _ _ _ _
              have f64 : ρ (.tmp 64) = .pointer (some ⟨bc, 0, none⟩) := hf.1 64 (by simp [Op.operands])
              have hq : w1.cell? ⟨bc, 0, none⟩ = some (.int .i64 (sn : Int)) := hC.clm.cell 0
              refine ok_value (v := .int .i64 (sn : Int)) (w' := w1) ?_ ⟨Below.refl _ _, hC, rfl⟩
              simp [execOp, f64, go_sem, hq]
            · -- 3: 66 := Op.move t12
              intro ρ w1 hC hf
              show OpOk _ _ _ _ _
              have f12 : ρ (.tmp 12) = .int .i64 (T : Int) := hf.1 12 (by simp [Op.operands])
              refine ok_value (v := .int .i64 (T : Int)) (w' := w1) ?_ ⟨Below.refl _ _, hC, rfl⟩
              simp [execOp, f12]
            · -- 4: 67 := Op.move t0
              intro ρ w1 hC hf
              show OpOk _ _ _ _ _
              have f0 : ρ (.tmp 0) = .int .u64 (left : Int) := hf.1 0 (by simp [Op.operands])
              refine ok_value (v := .int .u64 (left : Int)) (w' := w1) ?_ ⟨Below.refl _ _, hC, rfl⟩
              simp [execOp, f0]
            · -- 5: 68 := Op.move t1
              intro ρ w1 hC hf
              show OpOk _ _ _ _ _
              have f1 : ρ (.tmp 1) = .int .i64 (nn : Int) := hf.1 1 (by simp [Op.operands])
              refine ok_value (v := .int .i64 (nn : Int)) (w' := w1) ?_ ⟨Below.refl _ _, hC, rfl⟩
              simp [execOp, f1]
            · -- 6: 69 := Op.fieldAddr 29 t18 3
              intro ρ w1 hC hf
              show OpOk _ _ _ _ _
              have f18 : ρ (.tmp 18) = .pointer (some ⟨bc, 0, none⟩) := hf.1 18 (by simp [Op.operands])
              refine ok_value (v := .pointer (some ⟨bc, 3, none⟩)) (w' := w1) ?_ ⟨Below.refl _ _, hC, rfl⟩
              simp [execOp, f18, go_sem]
            · -- 7: 70 := Op.load 27 t69
              intro ρ w1 hC hf
              show OpOk _ _ _ _ _
              have f69 : ρ (.tmp 69) = .pointer (some ⟨bc, 3, none⟩) := hf.1 69 (by simp [Op.operands])
              have hq : w1.cell? ⟨bc, 3, none⟩ = some (.slice ai rs.length ci) := hC.clm.cell 3
              refine ok_value (v := .slice ai rs.length ci) (w' := w1) ?_ ⟨Below.refl _ _, hC, rfl⟩
              simp [execOp, f69, go_sem, hq]
            · -- 8: 71 := Op.call ( value (Operand.func 37), args := #[t67, 
              intro ρ w1 hC hf
              show OpOk _ _ _ _ _
              have f67 : ρ (.tmp 67) = .int .u64 (left : Int) := hf.1 67 (by simp [Op.operands, Call.operands])
              have f68 : ρ (.tmp 68) = .int .i64 (nn : Int) := hf.1 68 (by simp [Op.operands, Call.operands])
              have f70 : ρ (.tmp 70) = .slice ai rs.length ci := hf.1 70 (by simp [Op.operands, Call.operands])
              refine ok_call (f := 37) (args := #[.int .u64 (left : Int), .int .i64 (nn : Int), .slice ai rs.length ci]) (by simp [execOp, hf.2.2.2, go_sem, f67, f68, f70]) ((sg_joint left (nn : Int) ai rs.length ci w1).mono ?_)
              rintro e w2 ⟨rfl, rfl⟩
              have hb2 : Below w1.heap.size w1 (((w1.alloc (.cells #[.int .u64 (left : Int)] 22)).alloc (.cells #[.int .i64 (nn : Int)] 3)).alloc (.cells #[.slice ai rs.length ci] 27)) := (((Below.refl _ _).alloc (Nat.le_refl _) _).alloc (by simp) _).alloc (by simp; omega) _
              exact ⟨_, rfl, hb2, hC.later hb2, ⟨_, rfl, ((Row.new _ _ _).alloc _).alloc _, (Row.new1 _ _ _ _).alloc _, Row.new2 _ _ _ _ _⟩⟩
            · -- 9: 72 := Op.call ( value (Operand.func 36), args := #[t63, 
              intro ρ w1 hC hf
              show OpOk _ _ _ _ _
              have f63 : ρ (.tmp 63) = .slice a la ca := hf.1 63 (by simp [Op.operands, Call.operands])
              have f65 : ρ (.tmp 65) = .int .i64 (sn : Int) := hf.1 65 (by simp [Op.operands, Call.operands])
              have f66 : ρ (.tmp 66) = .int .i64 (T : Int) := hf.1 66 (by simp [Op.operands, Call.operands])
              have f71 : (fun (v : Value) (w1 : World) => ∃ bl, v = .func (.func 54) #[] #[.pointer (some ⟨bl, 0, none⟩), .pointer (some ⟨bl + 1, 0, none⟩), .pointer (some ⟨bl + 1 + 1, 0, none⟩)] ∧ Row w1 bl 22 #[.int .u64 (left : Int)] ∧ Row w1 (bl + 1) 3 #[.int .i64 (nn : Int)] ∧ Row w1 (bl + 1 + 1) 27 #[.slice ai rs.length ci]) (ρ (.tmp 71)) w1 := hf.1 71 (by simp [Op.operands, Call.operands])
              obtain ⟨bl, e1, r1, r2, r3⟩ := f71
              refine ok_call (f := 36) (args := #[.slice a la ca, .int .i64 (sn : Int), .int .i64 (T : Int), .func (.func 54) #[] #[.pointer (some ⟨bl, 0, none⟩), .pointer (some ⟨bl + 1, 0, none⟩), .pointer (some ⟨bl + 1 + 1, 0, none⟩)]]) (by simp [execOp, hf.2.2.2, go_sem, f63, f65, f66, e1]) ((sg_givesJ (deck left) nn (fitP rs) HLE.out bl (bl + 1) (bl + 1 + 1) a la ca ls (sn : Int) T HTB.out (fun h => absurd h HSN.out) w1 (HA.out.below (Nat.le_refl _) hC.kw.below) HOK.out (fun W hW ad m c qs hr hk => sg_joint1 left nn HL.out HN.out bl (bl + 1) (bl + 1 + 1) ai rs.length ci rs ad m c qs W (r1.later hW) (r2.later hW) (r3.later hW) ((HRC.out.below (hC.kw.below.trans (hW.mono hC.kw.below.size))).rgs) HRS.out hr hk)).mono ?_)
              rintro e w2 ⟨rfl, hb2⟩
              exact ⟨_, rfl, hb2, hC.later hb2, congrArg (fun n : Nat => Value.int .i64 (n : Int)) HFV.out⟩
            · -- 10: 20 := Op.assign t72
              intro ρ w1 hC hf
              show OpOk _ _ _ _ _
              have f72 : (ρ (.tmp 72)) = .int .i64 (fv : Int) := hf.1 72 (by simp [Op.operands])
              refine ok_value (v := .int .i64 (fv : Int)) (w' := w1) ?_ ⟨Below.refl _ _, hC, rfl⟩
              simp [execOp, f72, go_sem]
          -- END17
          case fini =>
            intro vs w6 hvl hvs hC hbl
            obtain ⟨v0, v1, v2, v3, v4, v5, v6, v7, v8, v9, v10, rfl⟩ : ∃ v0 v1 v2 v3 v4 v5 v6 v7 v8 v9 v10, vs = [v0, v1, v2, v3, v4, v5, v6, v7, v8, v9, v10] := by
              match vs, hvl with
              | [v0, v1, v2, v3, v4, v5, v6, v7, v8, v9, v10], _ => exact ⟨v0, v1, v2, v3, v4, v5, v6, v7, v8, v9, v10, rfl⟩
            have e10 : v10 = .int .i64 (fv : Int) := hvs 10 v10 rfl
            subst e10
            have HK7 := Lib.hid hC
            clear hvs hC hbl HK6 HK4 hc4 hc5 hc6 c0 c1 c2 c3
            simp only [putAll, List.zip_cons_cons, List.zip_nil_left, List.foldl_cons, List.foldl_nil, Act.put, List.setIfInBounds_toArray, List.set]
            have HCS := Lib.hid (HCB.out sn)
            have HFS : Hid (fv ≤ 4503599627370496) := Lib.hid (by rw [← HFVV.out]; exact HFB.out _)
            have HFC : Hid (fC cnt fit T k ⟨(sn : Int), lo, hi, rs⟩ = f1 k (sn : Int) (cnt sn) fv ++ (f2 k (sn : Int) lo (cnt sn) T ++ f3 k (sn : Int) hi (cnt sn) T)) := Lib.hid (by unfold fC; simp only [Int.toNat_natCast, HFVV.out])
            obtain ⟨on, HON⟩ : ∃ n, Hid (cnt sn = n) := ⟨_, Lib.hid rfl⟩
            rw [HON.out] at HCS HFC
            rw [HON.out]
            go_upto_if 75 with fail
            have HLEN : Hid ((listTo (fAt cnt fit T cs) k).length + (f1 k (sn : Int) on fv).length + (f2 k (sn : Int) lo on T).length ≤ 80) := Lib.hid (by
              have h1 := to_len (fAt cnt fit T cs) 3 (fAt_len cnt fit T cs) k
              have h2 : (f1 k (sn : Int) on fv).length ≤ 1 := by unfold f1; split <;> simp
              have h3 : (f2 k (sn : Int) lo on T).length ≤ 1 := by unfold f2; split <;> simp
              have h4 := HLC.out
              omega)
            go_cut [15, 50] from 50 to 116 (fun v i wx => i = .int .i64 (k : Int) ∧ KC w B b1 bm cnt (k + 1) (knOf (cs.take (k + 1))) bc #[.int .i64 (sn : Int), .int .i64 lo, .int .i64 hi, .slice ai rs.length ci] v (listTo (fAt cnt fit T cs) k ++ f1 k (sn : Int) on fv) wx)
            case first =>
              have hcc : w6.cell? ⟨bc, 0, none⟩ = some (.int .i64 (sn : Int)) := HK7.out.clm.cell 0
              have hon := HCS.out
              have hfv := HFS.out
              by_cases h1 : fv < on
              · have g1 : decide ((fv : Int) < (on : Int)) = true := by simp; omega
                have g2 : decide (fv < on) = true := decide_eq_true h1
                have HF : Hid (f1 k (sn : Int) on fv = [⟨(k : Int), (sn : Int), 1, (on : Int) - (fv : Int)⟩]) := Lib.hid (by unfold f1; rw [if_pos h1])
                go_wp2_with (go_at_call 38; refine (sg_gather B _ (listTo (fAt cnt fit T cs) k) ⟨(k : Int), (sn : Int), 1, (on : Int) - (fv : Int)⟩ w6 HK7.out.kw.out HK7.out.kw.l3 (by have := HLEN.out; omega)).mono ?_; rintro e w8 ⟨v8, rfl, h1, h2, h3, h4⟩; have HK8 := Lib.hid (HK7.out.app h1 h2 h3 h4); clear h1 h2 h3 h4)
                go_meet
                exact ⟨rfl, by rw [HF.out]; exact HK8.out⟩
              · have g1 : decide ((fv : Int) < (on : Int)) = false := by simp; omega
                have g2 : decide (fv < on) = false := decide_eq_false h1
                have HF : Hid (f1 k (sn : Int) on fv = []) := Lib.hid (by unfold f1; rw [if_neg h1])
                go_wp2_with fail
                go_meet
                exact ⟨rfl, by rw [HF.out, List.append_nil]; exact HK7.out⟩
            obtain ⟨rfl, hk8⟩ := hcut
            have HK8 := Lib.hid hk8
            clear hk8 HK7
            have hlo : wc.cell? ⟨bc, 1, none⟩ = some (.int .i64 lo) := HK8.out.clm.cell 1
            have hon := HCS.out
            have hpb : 0 ≤ lo * (T : Int) ∧ lo * (T : Int) ≤ 4503599627370496000 := by
              obtain ⟨z1, z2, z3⟩ := HLH.out
              have z4 := HTB.out
              refine ⟨Int.mul_nonneg z1 (by omega), ?_⟩
              have := Int.mul_le_mul (show lo ≤ 1000 by omega) (show (T : Int) ≤ 4503599627370496 by omega) (by omega) (by decide)
              exact this
            obtain ⟨p, hp⟩ : ∃ p, lo * (T : Int) = p := ⟨_, rfl⟩
            rw [hp] at hpb
            go_upto_if 92 with fail
            go_cut [15, 50] from 50 to 116 (fun v i wx => i = .int .i64 (k : Int) ∧ KC w B b1 bm cnt (k + 1) (knOf (cs.take (k + 1))) bc #[.int .i64 (sn : Int), .int .i64 lo, .int .i64 hi, .slice ai rs.length ci] v (listTo (fAt cnt fit T cs) k ++ f1 k (sn : Int) on fv ++ f2 k (sn : Int) lo on T) wx)
            case first =>
              have hcc : wc.cell? ⟨bc, 0, none⟩ = some (.int .i64 (sn : Int)) := HK8.out.clm.cell 0
              by_cases h1 : 1000 * (on : Int) < p
              · have g1 : decide (1000 * (on : Int) < p) = true := by simp; omega
                have HF : Hid (f2 k (sn : Int) lo on T = [⟨(k : Int), (sn : Int), 2, (on : Int)⟩]) := Lib.hid (by unfold f2; rw [hp, if_pos h1])
                go_wp2_with (go_at_call 38; refine (sg_gather B _ (listTo (fAt cnt fit T cs) k ++ f1 k (sn : Int) on fv) ⟨(k : Int), (sn : Int), 2, (on : Int)⟩ wc HK8.out.kw.out HK8.out.kw.l3 (by have := HLEN.out; simp only [List.length_append]; omega)).mono ?_; rintro e w8 ⟨v8, rfl, h1, h2, h3, h4⟩; have HK9 := Lib.hid (HK8.out.app h1 h2 h3 h4); clear h1 h2 h3 h4)
                go_meet
                exact ⟨rfl, by rw [HF.out]; exact HK9.out⟩
              · have g1 : decide (1000 * (on : Int) < p) = false := by simp; omega
                have HF : Hid (f2 k (sn : Int) lo on T = []) := Lib.hid (by unfold f2; rw [hp, if_neg h1])
                go_wp2_with fail
                go_meet
                exact ⟨rfl, by rw [HF.out, List.append_nil]; exact HK8.out⟩
            obtain ⟨rfl, hk8⟩ := hcut
            have HK9 := Lib.hid hk8
            clear hk8 HK8 hlo hp hpb
            have hhi : wc.cell? ⟨bc, 2, none⟩ = some (.int .i64 hi) := HK9.out.clm.cell 2
            have hcc : wc.cell? ⟨bc, 0, none⟩ = some (.int .i64 (sn : Int)) := HK9.out.clm.cell 0
            have hpb : 0 ≤ hi * (T : Int) ∧ hi * (T : Int) ≤ 4503599627370496000 := by
              obtain ⟨z1, z2, z3⟩ := HLH.out
              have z4 := HTB.out
              refine ⟨Int.mul_nonneg (by omega) (by omega), ?_⟩
              have := Int.mul_le_mul (show hi ≤ 1000 by omega) (show (T : Int) ≤ 4503599627370496 by omega) (by omega) (by decide)
              exact this
            obtain ⟨p2, hp⟩ : ∃ p, hi * (T : Int) = p := ⟨_, rfl⟩
            rw [hp] at hpb
            by_cases h1 : p2 < 1000 * (on : Int)
            · have g1 : decide (p2 < 1000 * (on : Int)) = true := by simp; omega
              have HF : Hid (f3 k (sn : Int) hi on T = [⟨(k : Int), (sn : Int), 3, (on : Int)⟩]) := Lib.hid (by unfold f3; rw [hp, if_pos h1])
              go_wp2_with (go_at_call 38; refine (sg_gather B _ (listTo (fAt cnt fit T cs) k ++ f1 k (sn : Int) on fv ++ f2 k (sn : Int) lo on T) ⟨(k : Int), (sn : Int), 3, (on : Int)⟩ wc HK9.out.kw.out HK9.out.kw.l3 (by have := HLEN.out; simp only [List.length_append]; omega)).mono ?_; rintro e w8 ⟨v8, rfl, h1, h2, h3, h4⟩; have HK10 := Lib.hid (HK9.out.app h1 h2 h3 h4); clear h1 h2 h3 h4)
              exact ⟨⟨k + 1, by omega, by simp, by rw [HTO.out, HFC.out, HF.out, ← List.append_assoc, ← List.append_assoc]; exact HK10.out.kw⟩, by simp [intOf]; omega⟩
            · have g1 : decide (p2 < 1000 * (on : Int)) = false := by simp; omega
              have HF : Hid (f3 k (sn : Int) hi on T = []) := Lib.hid (by unfold f3; rw [hp, if_neg h1])
              go_wp2_with fail
              exact ⟨⟨k + 1, by omega, by simp, by rw [HTO.out, HFC.out, HF.out, List.append_nil, ← List.append_assoc]; exact HK9.out.kw⟩, by simp [intOf]; omega⟩
        · obtain rfl : k = lb := by omega
          have hd : decide ((k : Int) < (k : Int)) = false := by simp
          have hlen : cs.length = k := HC.out.length
          have HK1 : Hid (KW w B b1 bm cnt k (knOf cs) u15 (listTo (fAt cnt fit T cs) k ++ listTo (fS cnt (knOf cs)) 0) wr) := Lib.hid (by
            have h := hK
            rw [List.take_of_length_le (by omega)] at h
            show KW w B b1 bm cnt k (knOf cs) u15 (listTo (fAt cnt fit T cs) k ++ []) wr
            rw [List.append_nil]; exact h)
          have HEND : Hid (checkL cnt fit T cs = listTo (fAt cnt fit T cs) k ++ listTo (fS cnt (knOf cs)) 10) := Lib.hid (by unfold checkL; rw [hlen])
          have HLEN : Hid (∀ s, s ≤ 10 → (listTo (fAt cnt fit T cs) k ++ listTo (fS cnt (knOf cs)) s).length ≤ 100) := Lib.hid fun s hs => by
            have h1 := to_len (fAt cnt fit T cs) 3 (fAt_len cnt fit T cs) k
            have h2 := to_len (fS cnt (knOf cs)) 1 (fS_len cnt _) s
            have h4 := HLC.out
            rw [List.length_append]; omega
          clear hK hlen
          go_wp2_with fail
          go_loopw [15, 21, 22, 119] (fun v _ _ i wr => ∃ (s : Nat), s ≤ 10 ∧ i = .int .i64 (s : Int) ∧ KW w B b1 bm cnt k (knOf cs) v (listTo (fAt cnt fit T cs) k ++ listTo (fS cnt (knOf cs)) s) wr) (fun _ _ _ i _ => 10 - (intOf i).toNat)
          case atStart => exact ⟨0, by omega, rfl, HK1.out⟩
          case round =>
            clear HK1
            obtain ⟨s, hs, rfl, hK⟩ := hrel
            by_cases hls : s < 10
            · have hds : decide ((s : Int) < 10) = true := by simp; omega
              have hsi : (s : Int) < 10 := by omega
              have hc := (hK.row.cell s).trans (tab_get 10 cnt s hls)
              have hcb := HCB.out s
              have HK := Lib.hid hK
              have HFS : Hid (fS cnt (knOf cs) s = if 0 < s ∧ 0 < cnt s ∧ knOf cs (s : Int) = false then [⟨-1, (s : Int), 4, (cnt s : Int)⟩] else []) := Lib.hid rfl
              have HTO : Hid (listTo (fS cnt (knOf cs)) (s + 1) = listTo (fS cnt (knOf cs)) s ++ fS cnt (knOf cs) s) := Lib.hid rfl
              have HL100 := Lib.hid (HLEN.out s (by omega))
              clear hK
              generalize cnt s = y at *
              rcases Nat.eq_zero_or_pos s with h0 | h0
              · have HF : Hid (fS cnt (knOf cs) s = []) := Lib.hid (by rw [HFS.out, if_neg (by omega)])
                subst h0
                simp only [show ((0 : Nat) : Int) = 0 from rfl] at *
                go_wp2_with fail
                exact ⟨⟨1, by omega, by simp, by rw [HTO.out, HF.out, List.append_nil]; exact HK.out⟩, by simp [intOf]⟩
              · have g0 : decide ((0 : Int) < (s : Int)) = true := by simp; omega
                rcases Nat.eq_zero_or_pos y with h1 | h1
                · have HF : Hid (fS cnt (knOf cs) s = []) := Lib.hid (by rw [HFS.out, if_neg (by omega)])
                  subst h1
                  simp only [show ((0 : Nat) : Int) = 0 from rfl] at hc
                  go_wp2_with fail
                  exact ⟨⟨s + 1, by omega, by simp, by rw [HTO.out, HF.out, List.append_nil]; exact HK.out⟩, by simp [intOf]; omega⟩
                · have g1 : decide ((0 : Int) < (y : Int)) = true := by simp; omega
                  have hrn := am_run HK.out.map (s : Int) (by omega) (by omega)
                  cases hkn : knOf cs (s : Int)
                  · have HF : Hid (fS cnt (knOf cs) s = [⟨-1, (s : Int), 4, (y : Int)⟩]) := Lib.hid (by rw [HFS.out, if_pos ⟨h0, h1, hkn⟩])
                    rw [hkn] at hrn
                    go_wp2_with (first
                      | (go_at_call 38; refine (sg_gather B _ (listTo (fAt cnt fit T cs) k ++ listTo (fS cnt (knOf cs)) s) ⟨-1, (s : Int), 4, (y : Int)⟩ wr HK.out.out HK.out.l3 (by have := HL100.out; omega)).mono ?_; rintro e w8 ⟨v8, rfl, h1, h2, h3, h4⟩; have HK8 := Lib.hid (HK.out.app h1 h2); clear h1 h2 h3 h4))
                    exact ⟨⟨s + 1, by omega, by simp, by rw [HTO.out, HF.out, ← List.append_assoc]; exact HK8.out⟩, by simp [intOf]; omega⟩
                  · have HF : Hid (fS cnt (knOf cs) s = []) := Lib.hid (by rw [HFS.out, hkn, if_neg (by simp)])
                    rw [hkn] at hrn
                    go_wp2_with fail
                    exact ⟨⟨s + 1, by omega, by simp, by rw [HTO.out, HF.out, List.append_nil]; exact HK.out⟩, by simp [intOf]; omega⟩
            · obtain rfl : s = 10 := by omega
              simp only [show ((10 : Nat) : Int) = 10 from rfl]
              have HK := Lib.hid hK
              have HOUT : Hid (OwnF wr w.heap.size u15 (checkL cnt fit T cs)) := Lib.hid (by rw [HEND.out]; exact hK.out.mono (by have := hK.l0; have := hK.l1; have := hK.l2; omega))
              clear hK
              go_wp2_with fail
              refine bodyPost_ret (v := .tuple #[u15, .int .i64 0]) (by simp [results, Try.results14, go_sem]) rfl ⟨⟨u15, rfl, ?_⟩, HK.out.below⟩
              rw [HCNT.out]
              exact HOUT.out
end Go.Proofs.Ytikdkhiehfccpaa
