/- RmI, RmJ in one text. -/
import Derived.Test.YtikdkhiehfccpaaMRmg
import Derived.Test.YtikdkhiehfccpaaMSgj

/- The reference of chapter 41: Announced; its faults. -/
namespace Go.Proofs.Ytikdkhiehfccpaa
open Go.RowKit Go.Sort Go.Shelf Cnt

set_option maxHeartbeats 2000000 in
theorem rm_Announced (a : Option Addr) (la ca : Nat) (cs : List Cm) (w : World) (ha : Cms w a la cs) :
    Calls Try.prog 17 #[.slice a la ca] w fun e w' => e = .returned (.bool (annV cs)) ∧ Below w.heap.size w w' := by
  have HA := Lib.hid ha
  have hsm := ha.small
  have hln := ha.length
  clear ha
  go_enter Try.func17, Try.ntmps17
  go_wp2_with fail
  go_loopw [3, 4] (fun i _ wr => ∃ (k : Nat), k ≤ la ∧ i = .int .i64 (k : Int) ∧ (cs.take k).all Cm.ok = true ∧ Below w.heap.size w wr) (fun i _ _ => la - (intOf i).toNat)
  case atStart => exact ⟨0, by omega, rfl, rfl, Below.refl _ _⟩
  case round =>
    obtain ⟨k, hk, rfl, hok, hB⟩ := hrel
    by_cases hlt : k < la
    · obtain ⟨b, off, x, ai, ci, rfl, hx, c0, c1, c2, c3, hR⟩ := (HA.out.below (Nat.le_refl _) hB).at hlt
      have hd : decide ((k : Int) < (la : Int)) = true := by simp; omega
      have hki : (k : Int) < (la : Int) := by omega
      have HX := Lib.hid hx
      have HOK := Lib.hid fun h => okc_succ hx hok h
      have hw : Below wr.heap.size wr (wr.alloc (.cells (x.arr ai ci) 49)) := (Below.refl _ _).alloc (Nat.le_refl _) _
      have HR1 := Lib.hid (hR.below hw)
      have HB1 := Lib.hid (hB.trans (hw.mono hB.size))
      have HXO : Hid (x.ok = (namedB x.s && rightV x.rs && decide (0 ≤ x.lo) && decide (x.lo ≤ x.hi) && decide (x.hi ≤ 1000))) := Lib.hid rfl
      have HNB : Hid (namedB x.s = (decide (1 ≤ x.s) && decide (x.s ≤ 9))) := Lib.hid rfl
      clear hx hB hR hw hok
      by_cases s1 : x.s < 1
      · have g0 : decide (x.s < 1) = true := decide_eq_true s1
        have HF := Lib.hid (ann_bad HX.out (by rw [HXO.out, HNB.out, decide_eq_false (show ¬ 1 ≤ x.s by omega)]; rfl))
        go_wp2_with fail
        go_ret
        exact ⟨by rw [HF.out]; rfl, HB1.out⟩
      · have g0 : decide (x.s < 1) = false := decide_eq_false s1
        by_cases s2 : 9 < x.s
        · have g00 : decide (9 < x.s) = true := decide_eq_true s2
          have HF := Lib.hid (ann_bad HX.out (by rw [HXO.out, HNB.out, decide_eq_false (show ¬ x.s ≤ 9 by omega)]; simp))
          go_wp2_with fail
          go_ret
          exact ⟨by rw [HF.out]; rfl, HB1.out⟩
        · have g00 : decide (9 < x.s) = false := decide_eq_false s2
          have hn : Hid (namedB x.s = true) := Lib.hid (by rw [HNB.out, decide_eq_true (show 1 ≤ x.s by omega), decide_eq_true (show x.s ≤ 9 by omega)]; rfl)
          clear s1 s2 HNB
          go_wp2_with fail
          refine (rf_Right ai x.rs.length ci x.rs _ HR1.out.rgs).mono ?_
          rintro e w2 ⟨rfl, hb2⟩
          have hrw := (Row.new wr 49 (x.arr ai ci)).later hb2
          have HB2 := Lib.hid (HB1.out.trans (hb2.mono HB1.out.size))
          have e1 := hrw.cell 1
          have e2 := hrw.cell 2
          simp only [List.getElem?_toArray, List.getElem?_cons_zero, List.getElem?_cons_succ] at e1 e2
          clear hb2 HB1 HR1 hrw
          have HXB : Hid (rightV x.rs = false ∨ x.lo < 0 ∨ x.hi < x.lo ∨ 1000 < x.hi → annV cs = false) := Lib.hid fun h => ann_bad HX.out (by
            rw [HXO.out]
            rcases h with h | h | h | h
            · rw [h]; simp
            · rw [decide_eq_false (show ¬ 0 ≤ x.lo by omega)]; simp
            · rw [decide_eq_false (show ¬ x.lo ≤ x.hi by omega)]; simp
            · rw [decide_eq_false (show ¬ x.hi ≤ 1000 by omega)]; simp)
          cases hr : rightV x.rs
          · have HF := Lib.hid (HXB.out (.inl hr))
            clear HXB
            go_wp2_with fail
            go_ret
            exact ⟨by rw [HF.out]; rfl, HB2.out⟩
          · by_cases q1 : x.lo < 0
            · have g1 : decide (x.lo < 0) = true := decide_eq_true q1
              have HF := Lib.hid (HXB.out (.inr (.inl q1)))
              clear HXB
              go_wp2_with fail
              go_ret
              exact ⟨by rw [HF.out]; rfl, HB2.out⟩
            · have g1 : decide (x.lo < 0) = false := decide_eq_false q1
              by_cases q2 : x.hi < x.lo
              · have g2 : decide (x.hi < x.lo) = true := decide_eq_true q2
                have HF := Lib.hid (HXB.out (.inr (.inr (.inl q2))))
                clear HXB
                go_wp2_with fail
                go_ret
                exact ⟨by rw [HF.out]; rfl, HB2.out⟩
              · have g2 : decide (x.hi < x.lo) = false := decide_eq_false q2
                by_cases q3 : 1000 < x.hi
                · have g3 : decide (1000 < x.hi) = true := decide_eq_true q3
                  have HF := Lib.hid (HXB.out (.inr (.inr (.inr q3))))
                  clear HXB
                  go_wp2_with fail
                  go_ret
                  exact ⟨by rw [HF.out]; rfl, HB2.out⟩
                · have g3 : decide (1000 < x.hi) = false := decide_eq_false q3
                  have HO2 := Lib.hid (HOK.out (by rw [HXO.out, hn.out, hr, decide_eq_true (show 0 ≤ x.lo by omega), decide_eq_true (show x.lo ≤ x.hi by omega), decide_eq_true (show x.hi ≤ 1000 by omega)]; rfl))
                  clear HXB HOK q1 q2 q3
                  go_wp2_with fail
                  exact ⟨⟨k + 1, by omega, by simp, HO2.out, HB2.out⟩, by simp [intOf]; omega⟩
    · obtain rfl : k = la := by omega
      have hd : decide ((k : Int) < (k : Int)) = false := by simp
      have HT : Hid (annV cs = decide (k ≤ 20)) := Lib.hid (by
        rw [List.take_of_length_le (by omega)] at hok
        unfold annV
        rw [hok, hln, Bool.and_true])
      have HB := Lib.hid hB
      clear hB hok hln
      by_cases h20 : k ≤ 20
      · have d20 : decide ((k : Int) ≤ 20) = true := by simp; omega
        rw [decide_eq_true h20] at HT
        go_wp2_with fail
        go_ret
        exact ⟨by rw [HT.out]; rfl, HB.out⟩
      · have d20 : decide ((k : Int) ≤ 20) = false := by simp; omega
        rw [decide_eq_false h20] at HT
        go_wp2_with fail
        go_ret
        exact ⟨by rw [HT.out]; rfl, HB.out⟩
theorem info_fr : (Try.prog.info? 45).map (fun i => (i.zero, i.size, i.bytes)) = some (some (.agg #[.int .i64 0, .int .i64 0, .int .u8 0, .int .i64 0]), 4, 32) := by kernel_rfl
abbrev OwnFr (w : World) (base : Nat) (v : Value) (fs : List Fl) : Prop := Owns encF 4 45 w base v fs
/-- append(v, one fault), the fault in a new block -/
theorem appFr {w0 : World} {ops : Array Oper} {rest : List Oper} {o : Oper} {a : Act} {Q : Exit → Act → World → Prop} (hgd : o.guard = none) (s x : Operand)
    (ho : o.op = .call { callee := .builtin .append, args := #[s, x], argTypes := #[38, 38] })
    (base : Nat) (v : Value) (fs : List Fl) (y : Fl) (hs : a.eval s = v) (hown : OwnFr w0 base v fs) (hx : a.eval x = .slice (some ⟨w0.heap.size, 0, none⟩) 1 1) (hbytes : fs.length ≤ 1000) (hbase : base ≤ w0.heap.size)
    (h : ∀ v' w', OwnFr w' base v' (fs ++ [y]) → Below base w0 w' → w0.grownBy w' v.ownBlock → (v'.ownBlock = v.ownBlock ∨ ∃ g, v'.ownBlock = some g ∧ w0.heap.size ≤ g) → wpList Try.prog ops Q rest (a.put o.dst v') w') :
    wpList Try.prog ops Q (o :: rest) a (w0.alloc (.cells (encF y).toArray 45)) := by
  refine appO (enc := encF) (m := 4) hgd s x 38 ho Try.underlying38 _ 32 info_fr (by decide) rfl (by decide) encF_one base v fs [y] hs (hown.alloc _) ⟨w0.heap.size, 0, none⟩ 1 1 hx rfl (one_cells encF w0 y 45) (by omega) (by rw [World.size_alloc]; omega) ?_
  intro v' w' h1 h2 h3 h4
  refine h v' w' h1 (((Below.refl _ _).alloc hbase _).trans h2) (grownBy_trans (World.grownBy_alloc w0 _ v.ownBlock) h3) (h4.imp id fun e => ⟨_, e, by simp⟩)
/-- within a round of the reference's Check -/
structure KM (w0 : World) (B bc : Nat) (c : Array Value) (v : Value) (fs : List Fl) (W : World) : Prop where
  below : Below B w0 W
  le : B ≤ W.heap.size
  out : OwnFr W B v fs
  clm : Row W bc 49 c
  ne : v.ownBlock ≠ some bc
theorem KM.later {w0 : World} {B bc : Nat} {c : Array Value} {v : Value} {fs : List Fl} {W W' : World} (h : KM w0 B bc c v fs W) (hb : Below W.heap.size W W') : KM w0 B bc c v fs W' :=
  ⟨h.below.trans (hb.mono h.le), Nat.le_trans h.le hb.size, h.out.below hb, h.clm.later hb, h.ne⟩
theorem KM.app {w0 : World} {B bc : Nat} {c : Array Value} {v v' : Value} {fs fs' : List Fl} {W W' : World} (h : KM w0 B bc c v fs W) (h1 : OwnFr W' B v' fs') (hb : Below B W W') (hg : W.grownBy W' v.ownBlock) (hl : v'.ownBlock = v.ownBlock ∨ ∃ g, v'.ownBlock = some g ∧ W.heap.size ≤ g) : KM w0 B bc c v' fs' W' := by
  refine ⟨h.below.trans hb, Nat.le_trans h.le hb.size, h1, (hg.block bc h.clm.lt (fun e => h.ne e.symm)).trans h.clm, fun e => ?_⟩
  rcases hl with e2 | ⟨g, e2, hg2⟩
  · exact h.ne (e2 ▸ e)
  · rw [e2] at e
    injection e with e
    have := h.clm.lt
    omega
theorem gv_none (ds : List Ft) (nn : Nat) : gvC ds nn QT [] 0 = cntF ds nn QT := by
  unfold gvC
  congr 1
end Go.Proofs.Ytikdkhiehfccpaa

/- The reference of chapter 41: Check. -/
namespace Go.Proofs.Ytikdkhiehfccpaa
open Go.RowKit Go.Sort Go.Shelf Cnt

theorem kn_snoc {cs : List Cm} {k : Nat} {c : Cm} (h : cs[k]? = some c) (s : Int) : knOf (cs.take (k + 1)) s = (knOf (cs.take k) s || c.s == s) := by
  unfold knOf
  rw [take_snoc h, List.any_append]
  simp
set_option maxHeartbeats 8000000 in
set_option maxRecDepth 10000 in
theorem rm_Check_yes (left nn : Nat) (hl : left < 4503599627370496) (hn : nn ≤ 13) (a : Option Addr) (la ca : Nat) (ls : List Rl) (b : Option Addr) (lb cb : Nat) (cs : List Cm) (w : World) (ha : Rls w a la ls) (hla : la ≤ 1000) (hok : lgOk left (nn : Int) ls = true) (hb : Cms w b lb cs) (hann : annV cs = true) :
    Calls Try.prog 15 #[.int .u64 (left : Int), .int .i64 (nn : Int), .slice a la ca, .slice b lb cb] w fun e w' =>
      (∃ v, e = .returned (.tuple #[v, .int .i64 0]) ∧ OwnFr w' w.heap.size v (checkL (cnV left (nn : Int) ls) (fun c => gvC (deck left) nn (fitP c.rs) ls c.s) (cntF (deck left) nn QT) cs)) ∧ Below w.heap.size w w' := by
  have HA := Lib.hid ha
  have HC := Lib.hid hb
  have HOK := Lib.hid hok
  have HANN := Lib.hid hann
  have HL := Lib.hid hl
  have HN := Lib.hid hn
  have HLC : Hid (lb ≤ 20) := Lib.hid (by
    have h := (Bool.and_eq_true_iff.1 hann).1
    have := hb.length
    simp at h; omega)
  have HCL := Lib.hid hb.length
  have hlb20 := HLC.out
  have HLE := Lib.hid (gv_le left nn)
  have HCV : Hid (∀ s : Nat, gvQ ls (s : Int) QT (ceOf left nn) = cnV left (nn : Int) ls s) := Lib.hid fun s => gvQ_hands left nn hn QT ls (s : Int)
  have HFT : Hid (∀ c : Cm, gvQ ls c.s (fitP c.rs) (ceOf left nn) = gvC (deck left) nn (fitP c.rs) ls c.s) := Lib.hid fun c => gvQ_hands left nn hn (fitP c.rs) ls c.s
  have HTT : Hid (gvQ [] 0 QT (ceOf left nn) = cntF (deck left) nn QT) := Lib.hid ((gvQ_hands left nn hn QT [] 0).trans (gv_none _ _))
  have HQ : Hid (∀ q k, qC q ((ceOf left nn).take k) ≤ 4503599627370496) := Lib.hid fun q k => qC_bound left nn hn q k
  have HLN : Hid ((ceOf left nn).length ≤ 112504) := Lib.hid (ce_len left nn hn)
  have HCB0 : Hid (∀ s : Nat, cnV left (nn : Int) ls s ≤ 4503599627370496) := Lib.hid fun s => by
    unfold cnV gvC
    exact HLE.out _
  obtain ⟨cnt, HCNT⟩ : ∃ f, Hid (cnV left (nn : Int) ls = f) := ⟨_, Lib.hid rfl⟩
  obtain ⟨fit, HFIT⟩ : ∃ f : Cm → Nat, Hid ((fun c : Cm => gvC (deck left) nn (fitP c.rs) ls c.s) = f) := ⟨_, Lib.hid rfl⟩
  obtain ⟨T, HT⟩ : ∃ x, Hid (cntF (deck left) nn QT = x) := ⟨_, Lib.hid rfl⟩
  have HTB : Hid (T ≤ 4503599627370496) := Lib.hid (by rw [← HT.out]; exact HLE.out _)
  have HFT2 : Hid (∀ c : Cm, gvQ ls c.s (fitP c.rs) (ceOf left nn) = fit c) := Lib.hid fun c => by rw [← HFIT.out]; exact HFT.out c
  have HFB : Hid (∀ c : Cm, fit c ≤ 4503599627370496) := Lib.hid fun c => by rw [← HFIT.out]; exact HLE.out _
  rw [HCNT.out] at HCV HCB0
  rw [HT.out] at HTT
  rw [HFIT.out, HT.out, HCNT.out]
  obtain ⟨ce, HCE⟩ : ∃ cs, Hid (ceOf left nn = cs) := ⟨_, Lib.hid rfl⟩
  rw [HCE.out] at HCV HFT2 HTT HQ HLN
  clear ha hb hok hann hl hn HFT HFIT HCNT HT
  go_enter Try.func15, Try.ntmps15
  go_wp2_with fail
  refine (rm_right left (nn : Int) a la ca ls _ HA.out hla).mono ?_
  rintro e w1 ⟨rfl, hb1⟩
  rw [HOK.out]
  have HB1 := Lib.hid hb1
  clear hb1
  go_wp2_with fail
  refine (rm_Announced b lb cb cs _ (HC.out.below (Nat.le_refl _) HB1.out)).mono ?_
  rintro e w2 ⟨rfl, hb2⟩
  rw [HANN.out]
  have HB2 := Lib.hid (HB1.out.trans (hb2.mono HB1.out.size))
  clear hb2 HB1
  go_wp2_with fail
  refine (rf_Cells left nn HL.out HN.out _).mono ?_
  rintro e w3 ⟨⟨v, rfl, hO⟩, hb3⟩
  rw [HCE.out] at hO
  obtain ⟨ao, cap, rfl, -⟩ := hO.slice
  have HB3 := Lib.hid (HB2.out.trans (hb3.mono HB2.out.size))
  have HO3 := Lib.hid hO
  clear hb3 hO HB2
  go_wp2_with fail
  refine (rm_told ce HLN.out HQ.out w2.heap.size ao cap none 0 0 [] 0 none 0 0 [] _ HO3.out (Rls.nil _) (Rgs.nil _)).mono ?_
  rintro e w4 ⟨rfl, hb4⟩
  rw [HTT.out]
  have HB4 := Lib.hid (HB3.out.trans (hb4.mono HB3.out.size))
  have HO := Lib.hid (HO3.out.below hb4)
  have HA4 := Lib.hid (HA.out.below (Nat.le_refl _) HB4.out)
  have HC4 := Lib.hid (HC.out.below (Nat.le_refl _) HB4.out)
  clear hb4 HO3 HB3 HA HC
  obtain ⟨t0, ht0⟩ : ∃ t, gvQ [] 0 (fitP []) ce = t := ⟨_, rfl⟩
  rw [ht0]
  clear ht0
  go_wp2_with fail
  go_loopw [13, 14, 15, 16, 17] (fun v i _ _ _ wr => ∃ (k : Nat), k ≤ lb ∧ i = .int .i64 (k : Int) ∧ Below w4.heap.size w4 wr ∧ OwnFr wr w4.heap.size v (listTo (fAt cnt fit T cs) k)) (fun _ i _ _ _ _ => lb - (intOf i).toNat)
  case atStart => exact ⟨0, by omega, rfl, Below.refl _ _, Owns.nil encF_len _ _⟩
  case round =>
    obtain ⟨k, hk, rfl, hB, hO⟩ := hrel
    by_cases hlt : k < lb
    · obtain ⟨bb, off, x, ai, ci, rfl, hx, c0, c1, c2, c3, hR⟩ := (HC4.out.below (Nat.le_refl _) hB).at hlt
      have HXX := Lib.hid hx
      have hxo : x.ok = true := List.all_eq_true.1 (Bool.and_eq_true_iff.1 HANN.out).2 x (List.mem_of_getElem? hx)
      have HTO : Hid (listTo (fAt cnt fit T cs) (k + 1) = listTo (fAt cnt fit T cs) k ++ fC cnt fit T k x) := Lib.hid (by
        show listTo (fAt cnt fit T cs) k ++ fAt cnt fit T cs k = _
        unfold fAt
        rw [hx])
      obtain ⟨xs, lo, hi, rs⟩ := x
      simp only [Cm.ok, namedB, Bool.and_eq_true, decide_eq_true_eq] at hxo
      obtain ⟨⟨⟨⟨⟨q1, q2⟩, q3⟩, q4⟩, q5⟩, q6⟩ := hxo
      obtain ⟨sn, rfl⟩ : ∃ sn : Nat, xs = (sn : Int) := ⟨xs.toNat, by omega⟩
      have HLH := Lib.hid (And.intro q4 (And.intro q5 q6))
      have hd : decide ((k : Int) < (lb : Int)) = true := by simp; omega
      have hki : (k : Int) < (lb : Int) := by omega
      have hs10 : sn < 10 := by omega
      have HFV : Hid (gvQ ls (sn : Int) (fitP rs) ce = fit ⟨(sn : Int), lo, hi, rs⟩) := Lib.hid (HFT2.out ⟨(sn : Int), lo, hi, rs⟩)
      have HFS0 := Lib.hid (HFB.out ⟨(sn : Int), lo, hi, rs⟩)
      obtain ⟨fv, HFVV⟩ : ∃ n, Hid (fit ⟨(sn : Int), lo, hi, rs⟩ = n) := ⟨_, Lib.hid rfl⟩
      rw [HFVV.out] at HFV HFS0
      have HCS := Lib.hid (HCB0.out sn)
      have HCN := Lib.hid (HCV.out sn)
      have HFC : Hid (fC cnt fit T k ⟨(sn : Int), lo, hi, rs⟩ = f1 k (sn : Int) (cnt sn) fv ++ (f2 k (sn : Int) lo (cnt sn) T ++ f3 k (sn : Int) hi (cnt sn) T)) := Lib.hid (by unfold fC; simp only [Int.toNat_natCast, HFVV.out])
      obtain ⟨on, HON⟩ : ∃ n, Hid (cnt sn = n) := ⟨_, Lib.hid rfl⟩
      rw [HON.out] at HCS HFC HCN
      have hw : Below wr.heap.size wr (wr.alloc (.cells #[.int .i64 (sn : Int), .int .i64 lo, .int .i64 hi, .slice ai rs.length ci] 49)) := (Below.refl _ _).alloc (Nat.le_refl _) _
      have HK5 : Hid (KM w4 w4.heap.size wr.heap.size #[.int .i64 (sn : Int), .int .i64 lo, .int .i64 hi, .slice ai rs.length ci] u13 (listTo (fAt cnt fit T cs) k) (wr.alloc (.cells #[.int .i64 (sn : Int), .int .i64 lo, .int .i64 hi, .slice ai rs.length ci] 49))) := Lib.hid
        ⟨hB.trans (hw.mono hB.size), Nat.le_trans hB.size hw.size, hO.below hw, Row.new _ _ _, fun e => by have := (World.ownsRow.lt hO.2 _ e).2; omega⟩
      have HRC := Lib.hid (hR.below hw)
      clear hx q1 q2 q3 q4 q5 q6 hB hO hR hw
      go_wp2_with fail
      clear c0 c1 c2 c3
      generalize (wr.alloc (.cells #[.int .i64 (sn : Int), .int .i64 lo, .int .i64 hi, .slice ai rs.length ci] 49)) = W5 at *
      generalize wr.heap.size = bc at *
      refine (rm_told ce HLN.out HQ.out w2.heap.size ao cap a la ca ls (sn : Int) ai rs.length ci rs _ (HO.out.below HK5.out.below) (HA4.out.below (Nat.le_refl _) HK5.out.below) HRC.out.rgs).mono ?_
      rintro e w6 ⟨rfl, hb6⟩
      rw [HCN.out, HFV.out]
      have HK6 := Lib.hid (HK5.out.later hb6)
      clear hb6 HK5 HRC
      go_upto_if 63 with fail
      have HLEN : Hid ((listTo (fAt cnt fit T cs) k).length + (f1 k (sn : Int) on fv).length + (f2 k (sn : Int) lo on T).length ≤ 80) := Lib.hid (by
        have h1 := to_len (fAt cnt fit T cs) 3 (fAt_len cnt fit T cs) k
        have h2 : (f1 k (sn : Int) on fv).length ≤ 1 := by unfold f1; split <;> simp
        have h3 : (f2 k (sn : Int) lo on T).length ≤ 1 := by unfold f2; split <;> simp
        have h4 := HLC.out
        omega)
      go_cut [13] from 41 to 103 (fun v wx => KM w4 w4.heap.size bc #[.int .i64 (sn : Int), .int .i64 lo, .int .i64 hi, .slice ai rs.length ci] v (listTo (fAt cnt fit T cs) k ++ f1 k (sn : Int) on fv) wx)
      case first =>
        have hcc : w6.cell? ⟨bc, 0, none⟩ = some (.int .i64 (sn : Int)) := HK6.out.clm.cell 0
        have hon := HCS.out
        have hfv := HFS0.out
        by_cases h1 : fv < on
        · have g1 : decide ((fv : Int) < (on : Int)) = true := by simp; omega
          have g2 : decide (fv < on) = true := decide_eq_true h1
          have HF : Hid (f1 k (sn : Int) on fv = [⟨(k : Int), (sn : Int), 1, (on : Int) - (fv : Int)⟩]) := Lib.hid (by unfold f1; rw [if_pos h1])
          go_wp2_with (refine appFr rfl (.tmp 64) (.tmp 72) rfl w4.heap.size u13 (listTo (fAt cnt fit T cs) k) ⟨(k : Int), (sn : Int), 1, (on : Int) - (fv : Int)⟩ rfl HK6.out.out rfl (by have := HLEN.out; omega) HK6.out.le ?_; intro v8 w8 h1 h2 h3 h4; have HK8 := Lib.hid (HK6.out.app h1 h2 h3 h4); clear h1 h2 h3 h4)
          go_meet
          exact (by rw [HF.out]; exact HK8.out)
        · have g1 : decide ((fv : Int) < (on : Int)) = false := by simp; omega
          have g2 : decide (fv < on) = false := decide_eq_false h1
          have HF : Hid (f1 k (sn : Int) on fv = []) := Lib.hid (by unfold f1; rw [if_neg h1])
          go_wp2_with fail
          go_meet
          exact (by rw [HF.out, List.append_nil]; exact HK6.out)
      have HK8 := Lib.hid hcut
      clear hcut HK6
      have hlo : wc.cell? ⟨bc, 1, none⟩ = some (.int .i64 lo) := HK8.out.clm.cell 1
      have hon := HCS.out
      have hpb : 0 ≤ (T : Int) * lo ∧ (T : Int) * lo ≤ 4503599627370496000 := by
        obtain ⟨z1, z2, z3⟩ := HLH.out
        have z4 := HTB.out
        refine ⟨Int.mul_nonneg (by omega) z1, ?_⟩
        have := Int.mul_le_mul (show (T : Int) ≤ 4503599627370496 by omega) (show lo ≤ 1000 by omega) z1 (by decide)
        exact this
      have HPC : Hid (lo * (T : Int) = (T : Int) * lo) := Lib.hid (Int.mul_comm _ _)
      obtain ⟨p, hp⟩ : ∃ p, (T : Int) * lo = p := ⟨_, rfl⟩
      rw [hp] at hpb HPC
      go_upto_if 80 with fail
      go_cut [13] from 41 to 103 (fun v wx => KM w4 w4.heap.size bc #[.int .i64 (sn : Int), .int .i64 lo, .int .i64 hi, .slice ai rs.length ci] v (listTo (fAt cnt fit T cs) k ++ f1 k (sn : Int) on fv ++ f2 k (sn : Int) lo on T) wx)
      case first =>
        have hcc : wc.cell? ⟨bc, 0, none⟩ = some (.int .i64 (sn : Int)) := HK8.out.clm.cell 0
        by_cases h1 : (on : Int) * 1000 < p
        · have g1 : decide ((on : Int) * 1000 < p) = true := by simp; omega
          have HF : Hid (f2 k (sn : Int) lo on T = [⟨(k : Int), (sn : Int), 2, (on : Int)⟩]) := Lib.hid (by unfold f2; rw [HPC.out, if_pos (by omega)])
          go_wp2_with (refine appFr rfl (.tmp 81) (.tmp 87) rfl w4.heap.size _ (listTo (fAt cnt fit T cs) k ++ f1 k (sn : Int) on fv) ⟨(k : Int), (sn : Int), 2, (on : Int)⟩ rfl HK8.out.out rfl (by have := HLEN.out; simp only [List.length_append]; omega) HK8.out.le ?_; intro v8 w8 h1 h2 h3 h4; have HK9 := Lib.hid (HK8.out.app h1 h2 h3 h4); clear h1 h2 h3 h4)
          go_meet
          exact (by rw [HF.out]; exact HK9.out)
        · have g1 : decide ((on : Int) * 1000 < p) = false := by simp; omega
          have HF : Hid (f2 k (sn : Int) lo on T = []) := Lib.hid (by unfold f2; rw [HPC.out, if_neg (by omega)])
          go_wp2_with fail
          go_meet
          exact (by rw [HF.out, List.append_nil]; exact HK8.out)
      have HK9 := Lib.hid hcut
      clear hcut HK8 hlo hp hpb HPC
      have hhi : wc.cell? ⟨bc, 2, none⟩ = some (.int .i64 hi) := HK9.out.clm.cell 2
      have hcc : wc.cell? ⟨bc, 0, none⟩ = some (.int .i64 (sn : Int)) := HK9.out.clm.cell 0
      have hpb : 0 ≤ (T : Int) * hi ∧ (T : Int) * hi ≤ 4503599627370496000 := by
        obtain ⟨z1, z2, z3⟩ := HLH.out
        have z4 := HTB.out
        refine ⟨Int.mul_nonneg (by omega) (by omega), ?_⟩
        have := Int.mul_le_mul (show (T : Int) ≤ 4503599627370496 by omega) (show hi ≤ 1000 by omega) (by omega) (by decide)
        exact this
      have HPC : Hid (hi * (T : Int) = (T : Int) * hi) := Lib.hid (Int.mul_comm _ _)
      obtain ⟨p2, hp⟩ : ∃ p, (T : Int) * hi = p := ⟨_, rfl⟩
      rw [hp] at hpb HPC
      by_cases h1 : p2 < (on : Int) * 1000
      · have g1 : decide (p2 < (on : Int) * 1000) = true := by simp; omega
        have HF : Hid (f3 k (sn : Int) hi on T = [⟨(k : Int), (sn : Int), 3, (on : Int)⟩]) := Lib.hid (by unfold f3; rw [HPC.out, if_pos (by omega)])
        go_wp2_with (refine appFr rfl (.tmp 96) (.tmp 102) rfl w4.heap.size _ (listTo (fAt cnt fit T cs) k ++ f1 k (sn : Int) on fv ++ f2 k (sn : Int) lo on T) ⟨(k : Int), (sn : Int), 3, (on : Int)⟩ rfl HK9.out.out rfl (by have := HLEN.out; simp only [List.length_append]; omega) HK9.out.le ?_; intro v8 w8 h1 h2 h3 h4; have HK10 := Lib.hid (HK9.out.app h1 h2 h3 h4); clear h1 h2 h3 h4)
        exact ⟨⟨k + 1, by omega, by simp, HK10.out.below, by rw [HTO.out, HFC.out, HF.out, ← List.append_assoc, ← List.append_assoc]; exact HK10.out.out⟩, by simp [intOf]; omega⟩
      · have g1 : decide (p2 < (on : Int) * 1000) = false := by simp; omega
        have HF : Hid (f3 k (sn : Int) hi on T = []) := Lib.hid (by unfold f3; rw [HPC.out, if_neg (by omega)])
        go_wp2_with fail
        exact ⟨⟨k + 1, by omega, by simp, HK9.out.below, by rw [HTO.out, HFC.out, HF.out, List.append_nil, ← List.append_assoc]; exact HK9.out.out⟩, by simp [intOf]; omega⟩
    · obtain rfl : k = lb := by omega
      have hd : decide ((k : Int) < (k : Int)) = false := by simp
      have HK1 : Hid (Below w4.heap.size w4 wr ∧ OwnFr wr w4.heap.size u13 (listTo (fAt cnt fit T cs) k ++ listTo (fS cnt (knOf cs)) 1)) := Lib.hid ⟨hB, by
        show OwnFr wr w4.heap.size u13 (listTo (fAt cnt fit T cs) k ++ ([] ++ fS cnt (knOf cs) 0))
        have : fS cnt (knOf cs) 0 = [] := by unfold fS; rw [if_neg (by omega)]
        rw [this, List.append_nil, List.append_nil]; exact hO⟩
      have HEND : Hid (checkL cnt fit T cs = listTo (fAt cnt fit T cs) k ++ listTo (fS cnt (knOf cs)) 10) := Lib.hid (by unfold checkL; rw [HCL.out])
      have HLEN : Hid (∀ s, s ≤ 10 → (listTo (fAt cnt fit T cs) k ++ listTo (fS cnt (knOf cs)) s).length ≤ 100) := Lib.hid fun s hs => by
        have h1 := to_len (fAt cnt fit T cs) 3 (fAt_len cnt fit T cs) k
        have h2 := to_len (fS cnt (knOf cs)) 1 (fS_len cnt _) s
        have h4 := HLC.out
        rw [List.length_append]; omega
      clear hB hO
      go_wp2_with fail
      go_loopw [13, 18, 19, 20, 21, 22] (fun v i _ _ _ _ wr => ∃ (s : Nat), 1 ≤ s ∧ s ≤ 10 ∧ i = .int .i64 (s : Int) ∧ Below w4.heap.size w4 wr ∧ OwnFr wr w4.heap.size v (listTo (fAt cnt fit T cs) k ++ listTo (fS cnt (knOf cs)) s)) (fun _ i _ _ _ _ _ => 10 - (intOf i).toNat)
      case atStart => exact ⟨1, by omega, by omega, rfl, HK1.out.1, HK1.out.2⟩
      case round =>
        clear HK1
        obtain ⟨s, hs1, hs, rfl, hB, hO⟩ := hrel
        by_cases hls : s < 10
        · have hds : decide ((s : Int) < 10) = true := by simp; omega
          have hsi : (s : Int) < 10 := by omega
          have HBs := Lib.hid hB
          have HOs := Lib.hid hO
          have HCN := Lib.hid (HCV.out s)
          have HCS := Lib.hid (HCB0.out s)
          have HFS : Hid (fS cnt (knOf cs) s = if 0 < s ∧ 0 < cnt s ∧ knOf cs (s : Int) = false then [⟨-1, (s : Int), 4, (cnt s : Int)⟩] else []) := Lib.hid rfl
          have HTO : Hid (listTo (fS cnt (knOf cs)) (s + 1) = listTo (fS cnt (knOf cs)) s ++ fS cnt (knOf cs) s) := Lib.hid rfl
          have HL100 := Lib.hid (HLEN.out s (by omega))
          clear hB hO
          generalize cnt s = y at *
          go_wp2_with fail
          go_loopw [19, 20] (fun kn i wx => ∃ (j : Nat), j ≤ k ∧ i = .int .i64 (j : Int) ∧ kn = .bool (knOf (cs.take j) (s : Int)) ∧ wr = wx) (fun _ i _ => k - (intOf i).toNat)
          case atStart => exact ⟨0, by omega, rfl, rfl, rfl⟩
          case round =>
            obtain ⟨j, hj, rfl, rfl, rfl⟩ := hrel
            by_cases hlj : j < k
            · obtain ⟨bb, off, x, ai, ci, rfl, hx, c0, c1, c2, c3, hR⟩ := (HC4.out.below (Nat.le_refl _) HBs.out).at hlj
              have hdj : decide ((j : Int) < (k : Int)) = true := by simp; omega
              have hji : (j : Int) < (k : Int) := by omega
              have HKN := Lib.hid (kn_snoc hx (s : Int))
              clear c1 c2 c3 hR hx
              cases hq : knOf (cs.take j) (s : Int)
              · have HKN2 : Hid (knOf (cs.take (j + 1)) (s : Int) = (x.s == (s : Int))) := Lib.hid (by rw [HKN.out, hq, Bool.false_or])
                clear HKN
                generalize x.s = z at *
                go_wp2_with fail
                exact ⟨⟨j + 1, by omega, by simp, by rw [HKN2.out], trivial⟩, by simp [intOf]; omega⟩
              · have HKN2 : Hid (knOf (cs.take (j + 1)) (s : Int) = true) := Lib.hid (by rw [HKN.out, hq, Bool.true_or])
                clear HKN
                go_wp2_with fail
                exact ⟨⟨j + 1, by omega, by simp, by rw [HKN2.out], trivial⟩, by simp [intOf]; omega⟩
            · obtain rfl : j = k := by omega
              have hdj : decide ((j : Int) < (j : Int)) = false := by simp
              have HKA : Hid (knOf (cs.take j) (s : Int) = knOf cs (s : Int)) := Lib.hid (by rw [List.take_of_length_le (by have := HCL.out; omega)])
              rw [HKA.out]
              obtain ⟨kn, HKN⟩ : ∃ q, Hid (knOf cs (s : Int) = q) := ⟨_, Lib.hid rfl⟩
              rw [HKN.out] at HFS ⊢
              obtain ⟨FS, HFSE⟩ : ∃ q, Hid (fS cnt (knOf cs) s = q) := ⟨_, Lib.hid rfl⟩
              rw [HFSE.out] at HFS HTO
              go_wp2_with fail
              refine (rm_told ce HLN.out HQ.out w2.heap.size ao cap a la ca ls (s : Int) none 0 0 [] _ (HO.out.below HBs.out) (HA4.out.below (Nat.le_refl _) HBs.out) (Rgs.nil _)).mono ?_
              rintro e w6 ⟨rfl, hb6⟩
              rw [HCN.out]
              have HB6 := Lib.hid (HBs.out.trans (hb6.mono HBs.out.size))
              have HO6 := Lib.hid (HOs.out.below hb6)
              have HZ6 := Lib.hid HB6.out.size
              clear hb6
              obtain ⟨t1, ht1⟩ : ∃ t, gvQ ls (s : Int) (fitP []) ce = t := ⟨_, rfl⟩
              rw [ht1]
              clear ht1
              have hyb := HCS.out
              cases kn
              · rcases Nat.eq_zero_or_pos y with h1 | h1
                · have HF : Hid (FS = []) := Lib.hid (by rw [HFS.out, if_neg (by omega)])
                  subst h1
                  simp only [show ((0 : Nat) : Int) = 0 from rfl]
                  go_wp2_with fail
                  go_roundw
                  · exact ⟨s + 1, by omega, by omega, by simp, HB6.out, by rw [HTO.out, HF.out, List.append_nil]; exact HO6.out⟩
                  · simp [intOf]; omega
                · have g1 : decide ((0 : Int) < (y : Int)) = true := by simp; omega
                  have HF : Hid (FS = [⟨-1, (s : Int), 4, (y : Int)⟩]) := Lib.hid (by rw [HFS.out, if_pos ⟨by omega, h1, rfl⟩])
                  go_wp2_with (refine appFr rfl (.tmp 137) (.tmp 141) rfl w4.heap.size _ (listTo (fAt cnt fit T cs) _ ++ listTo (fS cnt (knOf cs)) s) ⟨-1, (s : Int), 4, (y : Int)⟩ rfl HO6.out rfl (by have := HL100.out; omega) HZ6.out ?_; intro v8 w8 h1 h2 h3 h4; have HB8 := Lib.hid (HB6.out.trans h2); have HO8 := Lib.hid h1; clear h1 h2 h3 h4)
                  go_roundw
                  · exact ⟨s + 1, by omega, by omega, by simp, HB8.out, by rw [HTO.out, HF.out, ← List.append_assoc]; exact HO8.out⟩
                  · simp [intOf]; omega
              · have HF : Hid (FS = []) := Lib.hid (by rw [HFS.out, if_neg (by simp)])
                go_wp2_with fail
                go_roundw
                · exact ⟨s + 1, by omega, by omega, by simp, HB6.out, by rw [HTO.out, HF.out, List.append_nil]; exact HO6.out⟩
                · simp [intOf]; omega
        · obtain rfl : s = 10 := by omega
          simp only [show ((10 : Nat) : Int) = 10 from rfl]
          have HBs := Lib.hid (HB4.out.trans (hB.mono HB4.out.size))
          have HOUT : Hid (OwnFr wr w.heap.size u13 (checkL cnt fit T cs)) := Lib.hid (by rw [HEND.out]; exact Owns.mono hO HB4.out.size)
          clear hB hO
          go_wp2_with fail
          exact bodyPost_ret (v := .tuple #[u13, .int .i64 0]) (by simp [results, Try.results15, go_sem]) rfl ⟨⟨u13, rfl, HOUT.out⟩, HBs.out⟩
end Go.Proofs.Ytikdkhiehfccpaa
