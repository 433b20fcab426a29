/- finesselaw12.PlayLegal walked over this seat's program. -/
import Derived.Test.YtginbellakkliaaDoorPyY
import Derived.Test.YtginbellakkliaaDoorPyZ
import Derived.Test.YtginbellakkliaaDoorPyO
import Derived.BigQuiet
import Derived.Deep.CutRange
namespace Go.Proofs.YtginbellakkliaaDoor
open Go.RowKit Go.Shelf Go.Sort
attribute [local go_sem] Oper.semAt_some

theorem kept_below {w W : World} (h : Kept (fun k => k < w.heap.size) w W) : Below w.heap.size w W := ⟨h.os, h.tape, h.output, h.size, fun k hk => h.block k hk hk⟩
theorem pt_len {d : Nat → Nat} {n t : Nat} {p : Ply} (h : PInv d n p t) (hd : Deal4 d n) : p.steps.length ≤ 52 ∧ (p.st.over = false → p.steps.length < 52) := by
  have h1 := h.many
  have h2 := h.t_le
  have h3 := hd.le
  have h4 := h.ok.st.ct
  have h5 := h.ct_over
  refine ⟨by omega, fun ho => ?_⟩
  have h6 : t ≠ n := fun e => by rw [h.over_iff.2 e] at ho; cases ho
  omega
theorem InP.regrown {W : World} {B : Nat} {p : Ply} {G : Nat → Prop} (h : InP W B p G) (d : Nat) (os : Array Obj) : InP (grow (redrawn W d) os) B p G := h.below (below_regrown W d os)
theorem tld_back (p : Ply) (b : List Nat) : ({ p with back := b } : Ply).tld = p.tld := by
  unfold Ply.tld
  rw [tks_back p b]; rfl
/-- a card that is not legal -/
theorem getD52' {l : List Nat} (h : ∀ c ∈ l, c < 52) (i : Nat) : l.getD i 0 < 52 := by
  rw [List.getD_eq_getElem?_getD]
  cases hi : l[i]? with
  | none => decide
  | some y => exact h y (List.mem_of_getElem? hi)
theorem do_no {p : Ply} {b : List Nat} {c : Nat} (ho : p.st.over = false) (h : ¬ (c < 52 ∧ p.st.legal.testBit c = true)) : ({ p with back := b } : Ply).doV c = (122, { p with back := b }) := by
  unfold Ply.doV
  rw [show ({ p with back := b } : Ply).st.over = false from ho, if_neg (by decide), if_neg h]
theorem do_over {p : Ply} {b : List Nat} {c : Nat} (ho : p.st.over = true) : ({ p with back := b } : Ply).doV c = (121, { p with back := b }) := by
  unfold Ply.doV
  rw [show ({ p with back := b } : Ply).st.over = true from ho, if_pos rfl]
theorem do_yes {p : Ply} {b : List Nat} {c : Nat} (ho : p.st.over = false) (h : c < 52 ∧ p.st.legal.testBit c = true) : ({ p with back := b } : Ply).doV c = (0, ({ p with back := [] } : Ply).put c) := by
  unfold Ply.doV
  rw [show ({ p with back := b } : Ply).st.over = false from ho, if_neg (by decide), if_pos h]
theorem undo_put (p : Ply) (c : Nat) : (({ p with back := [] } : Ply).put c).undoV = (0, { p with back := [c] }) := by
  unfold Ply.undoV Ply.put
  simp
/-- the thirteen cards of a suit -/
def smV (q : Nat) : Nat := 8191 * 2 ^ (13 * q)
theorem smV_bit {q : Nat} {i : Nat} : (smV q).testBit i = decide (13 * q ≤ i ∧ i < 13 * q + 13) := by
  unfold smV
  rw [Nat.testBit_mul_two_pow, show (8191 : Nat) = 2 ^ 13 - 1 from rfl, Nat.testBit_two_pow_sub_one]
  rw [Bool.eq_iff_iff]
  simp only [Bool.and_eq_true, decide_eq_true_eq]
  omega
theorem smV_w64 {q : Nat} (hq : q ≤ 3) : W64 (smV q) := by
  rcases (show q = 0 ∨ q = 1 ∨ q = 2 ∨ q = 3 by omega) with rfl | rfl | rfl | rfl <;> (unfold W64 smV; decide)
theorem smV_has {q H : Nat} (_hq : q ≤ 3) (hH : H < 4503599627370496) : (land H (smV q) = 0) ↔ hasS q H = false := by
  have hw : W64 H := Nat.lt_of_lt_of_le hH (by decide)
  have key : (∃ x, H.testBit x = true ∧ suit x = q) ↔ land H (smV q) ≠ 0 := by
    constructor
    · rintro ⟨x, hx, hs⟩ h0
      have h52 : x < 52 := y_bit_lt (n := 52) hH hx
      rw [y_suit_div h52] at hs
      have := congrArg (fun m => m.testBit x) h0
      simp only [testBit_land, smV_bit, hx, Nat.zero_testBit, Bool.true_and, decide_eq_false_iff_not] at this
      omega
    · intro h0
      apply Classical.byContradiction
      intro hn
      apply h0
      apply land_zero
      intro x hx
      rw [smV_bit, decide_eq_false_iff_not]
      intro hr
      have h52 : x < 52 := y_bit_lt (n := 52) hH hx
      exact hn ⟨x, hx, by rw [y_suit_div h52]; omega⟩
  rw [← Bool.not_eq_true, hasS_iff hw, key]
  exact (Classical.not_not).symm
theorem sm_bits {q H : Nat} (hq : q ≤ 3) (hH : W64 H) : bits BinOp.and IntKind.u64 (H : Int) (IntKind.u64.wrap (8191 * 2 ^ (13 * q))) = ((land H (smV q) : Nat) : Int) := by
  have e : IntKind.u64.wrap (8191 * 2 ^ (13 * q)) = ((smV q : Nat) : Int) := by
    rcases (show q = 0 ∨ q = 1 ∨ q = 2 ∨ q = 3 by omega) with rfl | rfl | rfl | rfl <;> rfl
  rw [e, bits_and_nat H _ hH (smV_w64 hq)]; rfl
theorem bitAt_true {m c : Nat} (h : m.testBit c = true) : bitAt m c = 1 := by
  rw [Nat.testBit_eq_decide_div_mod_eq, decide_eq_true_eq] at h
  unfold bitAt; rw [Nat.shiftRight_eq_div_pow]; exact h
theorem bitAt_false {m c : Nat} (h : m.testBit c = false) : bitAt m c = 0 := by
  rw [Nat.testBit_eq_decide_div_mod_eq, decide_eq_false_iff_not] at h
  unfold bitAt; rw [Nat.shiftRight_eq_div_pow]; omega
theorem trCs_ok {d : Nat → Nat} {n t : Nat} {p : Ply} (h : PInv d n p t) : p.st.trCs.length ≤ 3 ∧ ∀ c ∈ p.st.trCs, c < 52 := by
  unfold PSt.trCs
  split
  · exact ⟨by simp, fun c hc => by simp at hc⟩
  · exact ⟨h.trick3, h.trick52⟩
attribute [local irreducible] Mn.d Mn.lv Mn.dn Mn.rk Mn.dc
set_option maxHeartbeats 2000000 in
set_option maxRecDepth 100000 in
theorem pl_all (x : Mn) (a : Option Addr) (len cap : Nat) (a2 : Option Addr) (len2 cap2 : Nat) (zs2 : List Nat) (w : World) (hz : Byt w a len x.zs) (hz2 : Byt w a2 len2 zs2) (hn : x.n < 256) (hc : x.c < 256) (hT : Tab w) :
    Calls Tryd.prog 6 #[.slice a len cap, .int .u8 (x.n : Int), .int .u8 (x.c : Int), .slice a2 len2 cap2] w fun e w' => e = .returned (.bool true) ∧ Below w.heap.size w w' := by
  have HA := Lib.hid (fun (w1 : World) (h : Below w.heap.size w w1) => law12_awake w1 (hT.below hT.pos h))
  have HM := Lib.hid (fun (w1 : World) (h : Below w.heap.size w w1) => law12_made x a len cap w1 (hz.below (Nat.le_refl _) h) hn hc)
  have HD := Lib.hid (made_deal4 x)
  have HNP : Hid (∀ w3, Below w.heap.size w w3 → Calls Tryd.prog 13 #[.agg #[.int .u64 (x.d 0 : Int), .int .u64 (x.d 1 : Int), .int .u64 (x.d 2 : Int), .int .u64 (x.d 3 : Int)], .agg #[.int .u8 (x.lv : Int), .int .u8 (x.dn : Int), .int .u8 (x.rk : Int), .int .u8 (x.dc : Int)]] w3 fun e W' =>
      ∃ B, e = .returned (.tuple #[.pointer (some ⟨B, 0, none⟩), .int .i64 0]) ∧ InP W' B (newP x.d x.lv x.dn x.rk x.dc) (fun g => g < w3.heap.size) ∧ Below w3.heap.size w3 W') :=
      Lib.hid (fun w3 hB3 => in_new x.d x.lv x.dn x.rk x.dc (made_w64 x) (made_new x) _ w3 (fun g hg => hg) (hT.below hT.pos hB3) (Nat.lt_of_lt_of_le hT.pos hB3.size))
  have HP0 := Lib.hid (PInv.new x)
  have HL0 : Hid ((newP x.d x.lv x.dn x.rk x.dc).steps.length = 0) := Lib.hid rfl
  generalize newP x.d x.lv x.dn x.rk x.dc = p0 at *
  go_enter Tryd.func6, Tryd.ntmps6
  go_wp2_with (first
    | (go_at_call 11; refine (HA.out _ (Below.refl _ _)).mono ?_; rintro e w1 ⟨rfl, hb1⟩)
    | (go_at_call 12; refine (HM.out _ hb1).mono ?_; rintro e w3 ⟨rfl, hb2⟩; have hB3 := hb1.trans (hb2.mono hb1.size); clear hb2)
    | (go_at_call 13; refine (HNP.out _ hB3).mono ?_; rintro e W0 ⟨B, rfl, H0, hb4⟩))
  clear HNP HA HM hb1
  have HB3 := Lib.hid hB3
  have hwl : w.heap.size ≤ w3.heap.size := hB3.size
  have HK0 : Kept (fun g => g < w3.heap.size) w3 W0 := Kept.of_below hb4
  clear hb4 hB3
  go_loopw [11] (fun i wr => ∃ p t, i = .int .i64 (p.steps.length : Int) ∧ InP wr B p (fun g => g < w3.heap.size) ∧ PInv x.d x.each p t ∧ Kept (fun g => g < w3.heap.size) w3 wr) (fun i _ => 53 - (intOf i).toNat)
  case atStart => exact ⟨p0, 0, by rw [HL0.out]; rfl, H0, HP0.out, HK0⟩
  case round =>
    obtain ⟨p, t, rfl, H, hp, HK⟩ := hrel
    clear H0 HK0
    have hl := pt_len hp HD.out
    obtain ⟨i, hi⟩ : ∃ i, p.steps.length = i := ⟨_, rfl⟩
    rw [hi] at hl ⊢
    have hi52 := hl.1
    have HI := Lib.hid hi
    cases ho : p.st.over
    · obtain ⟨L, hL⟩ : ∃ L, p.st.legal = L := ⟨_, rfl⟩
      have hL1 : L ≠ 0 := by rw [← hL]; exact hp.legal_ne HD.out ho
      have hL64 : W64 L := by rw [← hL]; exact hp.legal64 HD.out
      have hLb : ((L : Int) != 0) = true := by rw [bne_iff_ne]; omega
      have hlg := fun (W' : World) (G' : Nat → Prop) (h : InP W' B p G') => in_legal h
      rw [hL] at hlg
      have HLG := Lib.hid hlg
      have hi52' : i < 52 := hl.2 ho
      by_cases hil : i < len2
      · have HDO := Lib.hid (fun c (hc : L.testBit c = true) => (by rw [← hL] at hc; exact hp.do HD.out hc : p.doV c = (0, ({ p with back := [] } : Ply).put c) ∧ PInv x.d x.each (({ p with back := [] } : Ply).put c) (if p.st.ct = 3 then t + 1 else t)))
        have hB6 : Below w.heap.size w wr := HB3.out.trans ((kept_below HK).mono hwl)
        obtain ⟨b, off, rfl, hbl, hcells⟩ := (hz2.below (Nat.le_refl _) hB6).at (by omega)
        have hcz := hcells i hil
        have hz256 := hz2.byte i
        have hTr := hT.below hT.pos hB6
        have HTR := Lib.hid hTr
        have hge : decide (i < len2) = true := decide_eq_true hil
        have hilI : (i : Int) < (len2 : Int) := by omega
        have hdo : ∀ z W', Below wr.heap.size wr W' → Calls Tryd.prog 18 #[.pointer (some ⟨B, 0, none⟩), .int .u8 (pickV L z : Int)] W' fun e W'' => e = .returned (.int .i64 0) ∧ InP W'' B (({ p with back := [] } : Ply).put (pickV L z)) (fun g => g < w3.heap.size) ∧ Kept (fun g => g < w3.heap.size) W' W'' := by
          intro z W' hb
          obtain ⟨s1, s2⟩ := pickV_spec hL64 hL1 z
          obtain ⟨e1, hp'⟩ := HDO.out _ s2
          have := in_do (H.below hb) (pickV L z) (by omega) (by rw [e1]; exact hp'.ok)
          rw [e1] at this; exact this
        have HDO2 := Lib.hid hdo
        have HPK := Lib.hid (fun z => pickV_spec hL64 hL1 z)
        clear hcells hdo hTr hB6 hlg hL ho hp hl hi
        generalize zs2.getD i 0 = z at *
        go_upto_region 9 with (go_at_call 14; refine (HLG.out _ _ H).mono ?_; rintro e W3 ⟨rfl, hb3⟩)
        have H3 := H.below hb3
        have hc3 := (hb3.cell (p := ⟨b, off + i, none⟩) (block_lt_of_cell hcz)).trans hcz
        have rc3 := fun dd os => cell_regrown hc3 dd os
        have HT3 := Lib.hid (HTR.out.below HTR.out.pos hb3)
        refine wp_region_below_tail 8 (by kernel_rfl) (by kernel_rfl) ?_
        simp only [List.take_succ_cons, List.take_zero, List.drop_succ_cons, List.drop_zero]
        repeat (quiet_step (first | exact Calls.regrown_of (HLG.out _ _ (H3.regrown _ _)) | exact Calls.regrown_of ((law12_cardV L z hL64 hL1 hz256 _ (HT3.out.below HT3.out.pos (below_regrown _ _ _))).mono fun _ _ ⟨he, hw⟩ => ⟨he, hw ▸ Below.refl _ _⟩)))
        refine wpQuiet_nil ?_
        rintro _ ⟨q, rfl⟩
        have hb4 := hb3.trans ((below_regrown W3 q.d q.os).mono hb3.size)
        generalize grow (redrawn W3 q.d) q.os = w5 at *
        clear rc3 hc3 hcz
        have HPKz := Lib.hid (HPK.out z)
        have HD5 := Lib.hid (HDO2.out z w5 hb4)
        have HDz := Lib.hid (HDO.out (pickV L z) HPKz.out.2)
        have hpk64 := HPKz.out.1
        generalize pickV L z = c at *
        go_wp2_with (go_at_call 18; refine HD5.out.mono ?_; rintro e W6 ⟨rfl, H6, hk6⟩)
        go_roundw
        case rel => exact ⟨_, _, by show Value.int IntKind.i64 _ = Value.int IntKind.i64 ((p.steps ++ [_]).length : Int); rw [List.length_append, HI.out]; rfl, H6, HDz.out.2, (HK.trans (Kept.of_below hb4)).trans hk6⟩
        case measure => simp [intOf]; omega
      · have hge : decide (i < len2) = false := decide_eq_false hil
        obtain ⟨s, hs⟩ : ∃ s, p.st.next = s := ⟨_, rfl⟩
        have hs4 : s < 4 := by rw [← hs]; exact next_lt _
        obtain ⟨h, hh⟩ : ∃ h, p.st.h = h := ⟨_, rfl⟩
        obtain ⟨ns, hns⟩ : ∃ s, tkWon p.tks 0 = s := ⟨_, rfl⟩
        obtain ⟨ew, hew⟩ : ∃ s, tkWon p.tks 1 = s := ⟨_, rfl⟩
        obtain ⟨mn, hmn⟩ : ∃ s, p.steps.length = s := ⟨_, rfl⟩
        have hte : p.tld = ⟨s, 0, L, h, ns, ew, mn⟩ := by
          have e : p.turnV = (s, 0) := by unfold Ply.turnV; rw [ho, hs]; rfl
          unfold Ply.tld; rw [e, hL, hh, hns, hew, hmn]
        have HLK : Hid (∀ (W' : World) (b : List Nat) (G' : Nat → Prop), InP W' B ({ p with back := b } : Ply) G' → Calls Tryd.prog 23 #[.pointer (some ⟨B, 0, none⟩)] W' fun e W'' => e = .returned (.agg #[.int .u8 (s : Int), .int .i64 0, .int .u64 (L : Int), .int .u64 (h 0 : Int), .int .u64 (h 1 : Int), .int .u64 (h 2 : Int), .int .u64 (h 3 : Int), .int .i64 (ns : Int), .int .i64 (ew : Int), .int .i64 (mn : Int)]) ∧ Below W'.heap.size W' W'') := Lib.hid fun W' b G' hI => by
          have := law12_look hI
          rw [tld_back, hte] at this; exact this
        have HEQ : ∀ w', Sem.run Tryd.prog (Op.equalIn 10000 51 (.agg #[.int .u8 (s : Int), .int .i64 0, .int .u64 (L : Int), .int .u64 (h 0 : Int), .int .u64 (h 1 : Int), .int .u64 (h 2 : Int), .int .u64 (h 3 : Int), .int .i64 (ns : Int), .int .i64 (ew : Int), .int .i64 (mn : Int)]) (.agg #[.int .u8 (s : Int), .int .i64 0, .int .u64 (L : Int), .int .u64 (h 0 : Int), .int .u64 (h 1 : Int), .int .u64 (h 2 : Int), .int .u64 (h 3 : Int), .int .i64 (ns : Int), .int .i64 (ew : Int), .int .i64 (mn : Int)])) w' = .ok true w' := fun w' => eq_told ⟨s, 0, L, h, ns, ew, mn⟩ w'
        have HTK : Hid (∀ (W' : World), InP W' B p (fun g => g < w3.heap.size) → Calls Tryd.prog 24 #[.pointer (some ⟨B, 0, none⟩)] W' fun e W'' => ∃ v, e = .returned (.tuple #[.int .u8 (p.st.trLd : Int), v]) ∧ OwnU W'' W'.heap.size v p.st.trCs ∧ Below W'.heap.size W' W'') := Lib.hid fun W' hI => in_Trick hI
        have HPI := Lib.hid hp
        have HO := Lib.hid ho
        have HH := Lib.hid hh
        have HLE := Lib.hid hL
        have HS := Lib.hid hs
        clear hs
        obtain ⟨tc, htc⟩ : ∃ tc, p.st.trCs = tc := ⟨_, rfl⟩
        obtain ⟨tld, htld⟩ : ∃ tc, p.st.trLd = tc := ⟨_, rfl⟩
        have htcl : tc.length ≤ 3 ∧ ∀ c ∈ tc, c < 52 := by
          rw [← htc]; exact trCs_ok hp
        have HTC := Lib.hid htc
        have HTCL := Lib.hid htcl
        rw [htc, htld] at HTK
        obtain ⟨m, hm⟩ : ∃ m, tc.length = m := ⟨_, rfl⟩
        have hm3 : m ≤ 3 := by rw [← hm]; exact htcl.1
        have HMM := Lib.hid hm
        clear hlg hL ho hp hl hi hte hh hns hew hmn htc htcl hm htld
        go_upto_region 12 with (first
          | (go_at_call 14; refine (HLG.out _ _ H).mono ?_; rintro e W3 ⟨rfl, hb3⟩)
          | (go_at_call 23; refine (HLK.out _ p.back _ (H.below hb3)).mono ?_; rintro e W4 ⟨rfl, hb4⟩))
        have hBa := hb3.trans (hb4.mono hb3.size)
        have hBb := hBa.alloc hBa.size (.cells #[.int .u8 (s : Int), .int .i64 0, .int .u64 (L : Int), .int .u64 (h 0 : Int), .int .u64 (h 1 : Int), .int .u64 (h 2 : Int), .int .u64 (h 3 : Int), .int .i64 (ns : Int), .int .i64 (ew : Int), .int .i64 (mn : Int)] 51)
        have hRT := Row.new W4 51 #[.int .u8 (s : Int), .int .i64 0, .int .u64 (L : Int), .int .u64 (h 0 : Int), .int .u64 (h 1 : Int), .int .u64 (h 2 : Int), .int .u64 (h 3 : Int), .int .i64 (ns : Int), .int .i64 (ew : Int), .int .i64 (mn : Int)]
        have hKs := hBa.size
        clear hBa hb3 hb4
        generalize W4.alloc (.cells #[.int .u8 (s : Int), .int .i64 0, .int .u64 (L : Int), .int .u64 (h 0 : Int), .int .u64 (h 1 : Int), .int .u64 (h 2 : Int), .int .u64 (h 3 : Int), .int .i64 (ns : Int), .int .i64 (ew : Int), .int .i64 (mn : Int)] 51) = w5 at *
        generalize W4.heap.size = K at *
        go_wp2_with (go_at_call 24; refine (HTK.out _ (H.below hBb)).mono ?_; rintro e w6 ⟨v, rfl, how, hb6⟩; obtain ⟨av, cv, rfl, _, _, _, hav, hzv⟩ := how.byt (by have := HTCL.out.1; omega) (fun j => by have := getD52' HTCL.out.2 j; omega); rw [HMM.out] at hzv ⊢)
        clear how
        have hR6 := hRT.below hRT.lt hb6
        have hBc := hBb.trans (hb6.mono hBb.size)
        have hKl : K < w6.heap.size := hR6.lt
        have H6 : InP w6 B ({ p with back := p.back } : Ply) (fun g => g < w3.heap.size ∨ (wr.heap.size ≤ g ∧ g < w6.heap.size)) := H.more hBc (fun g hg => hg) (.inl (Nat.lt_of_lt_of_le (Nat.lt_of_lt_of_le hT.pos hwl) (Nat.le_refl _)))
        have hwr : w3.heap.size ≤ wr.heap.size := HK.size
        have HB6 : Hid (Below w.heap.size w w6) := Lib.hid ((HB3.out.trans ((kept_below HK).mono hwl)).trans (hBc.mono (Nat.le_trans hwl HK.size)))
        have hww : w.heap.size ≤ wr.heap.size := Nat.le_trans hwl HK.size
        have HR6 := Lib.hid hR6
        have HZV := Lib.hid hzv
        have HAV : Hid (∀ ad, av = some ad → wr.heap.size ≤ ad.block ∧ ad.block < w6.heap.size) := Lib.hid fun ad he => ⟨by have := (hav ad he).1; have := hBb.size; omega, (hav ad he).2⟩
        obtain ⟨G1, hG1⟩ : ∃ G1 : Nat → Prop, G1 = (fun g => g < w3.heap.size ∨ (wr.heap.size ≤ g ∧ g < w6.heap.size)) := ⟨_, rfl⟩
        rw [← hG1] at H6
        have hGK : G1 K := by rw [hG1]; exact .inr ⟨by omega, hKl⟩
        have HGAV : Hid (∀ ad, av = some ad → G1 ad.block ∧ ad.block < w6.heap.size) := Lib.hid fun ad he => ⟨by rw [hG1]; exact .inr (HAV.out ad he), (HAV.out ad he).2⟩
        have HGW : Hid (∀ b, b < w.heap.size → G1 b) := Lib.hid fun b hb => by rw [hG1]; exact .inl (by omega)
        clear hb6 hRT hBb hav hzv hR6 hBc H HK HTK HLG hG1 HAV hww hwr hKs
        go_loopw [63] (fun j wq => ∃ (k : Nat) (b : List Nat), k ≤ 256 ∧ j = .int .i64 (k : Int) ∧ InP wq B ({ p with back := b } : Ply) G1 ∧ Kept G1 w6 wq) (fun j _ => 256 - (intOf j).toNat)
        case atStart => exact ⟨0, p.back, by omega, rfl, H6, Kept.refl _ _⟩
        case round =>
          obtain ⟨k, b, hk, rfl, H, HK⟩ := hrel
          clear H6
          have R := HR6.out.kept hGK HK
          by_cases hk256 : k < 256
          · have hwl2 := hwl
            have hch := (R.cell (3 + s)).trans (told_get s 0 L h ns ew mn s hs4)
            have d0 := R.cell 0
            have d1 := R.cell 1
            have d2 := R.cell 2
            have d3 := R.cell 3
            have d4 := R.cell 4
            have d5 := R.cell 5
            have d6 := R.cell 6
            have d7 := R.cell 7
            have d8 := R.cell 8
            have d9 := R.cell 9
            simp only [List.getElem?_toArray, List.getElem?_cons_zero, List.getElem?_cons_succ] at d0 d1 d2 d3 d4 d5 d6 d7 d8 d9
            have hL64' : W64 L := hL64
            by_cases hk52 : k < 52
            · have hk52I : decide ((k : Int) < 52) = true := by rw [decide_eq_true_eq]; omega
              have hform := HPI.out.legal_bit HD.out HO.out k
              rw [HLE.out, HS.out, HH.out] at hform
              have htc0 : p.st.trick = tc := by rw [← HTC.out]; unfold PSt.trCs; rw [HO.out]; rfl
              have hct : p.st.ct = m := by rw [← HMM.out, ← htc0, trick_len]
              rw [htc0, hct] at hform
              have hH52 : h s < 4503599627370496 := by rw [← HH.out, ← HS.out]; exact HPI.out.lt HD.out _
              have hH64 : W64 (h s) := Nat.lt_of_lt_of_le hH52 (by decide)
              have HFM := Lib.hid hform
              have HH52 := Lib.hid hH52
              clear hform htc0 hct hH52
              generalize h s = H1 at *
              cases hLk : L.testBit k
              · have hdv : ({ p with back := b } : Ply).doV k = (122, { p with back := b }) := do_no HO.out (by rw [HLE.out, hLk]; simp)
                go_upto_if 84 with fail
                go_cut [] from 78 to 123 (fun w' => w' = wr)
                case first =>
                  clear hdv
                  by_cases hm0 : m = 0
                  · have hm0I : decide ((m : Int) > 0) = false := by rw [decide_eq_false_iff_not]; omega
                    have hb1 : H1.testBit k = L.testBit k := by rw [HFM.out, decide_eq_true hm0]; simp
                    rw [hLk] at hb1
                    go_wp2_with fail
                    go_meet
                    case rel => rfl
                  · have hm0I : decide ((m : Int) > 0) = true := by rw [decide_eq_true_eq]; omega
                    have hm0I2 : (0 : Int) < (m : Int) := by omega
                    have hm0N : decide (0 < m) = true := by rw [decide_eq_true_eq]; omega
                    obtain ⟨bb, off, hae, hbl, hcells⟩ := HZV.out.at (by omega)
                    have hl0 := hcells 0 (by omega)
                    have hl52 := getD52' HTCL.out.2 0
                    have hl1 := (HK.cell (p := ⟨bb, off + 0, none⟩) (HGAV.out _ hae).1 (HGAV.out _ hae).2).trans hl0
                    have hf2 := HFM.out
                    rw [decide_eq_false hm0, Bool.false_or, y_suit_div hk52, y_suit_div hl52] at hf2
                    rw [Nat.add_zero] at hl1
                    clear hcells hl0
                    subst hae
                    generalize tc.getD 0 0 = l0 at *
                    obtain ⟨q, hq⟩ : ∃ q, l0 / 13 = q := ⟨_, rfl⟩
                    have hq3 : q ≤ 3 := by omega
                    have hqi : (l0 : Int) / 13 = (q : Int) := by omega
                    rw [hq] at hf2
                    have hbw := sm_bits hq3 hH64
                    have hhas := smV_has hq3 HH52.out
                    clear hq
                    cases hsq : hasS q H1
                    · have hld : land H1 (smV q) = 0 := hhas.2 hsq
                      have hbw0 : bits BinOp.and IntKind.u64 (H1 : Int) (IntKind.u64.wrap (8191 * 2 ^ (13 * q))) = 0 := by rw [hbw, hld]; rfl
                      clear hhas hld hbw
                      rw [hsq] at hf2
                      have hb1 : H1.testBit k = L.testBit k := by rw [hf2]; simp
                      rw [hLk] at hb1
                      clear hf2
                      go_wp2_with fail
                      go_meet
                      case rel => rfl
                    · have hld : land H1 (smV q) ≠ 0 := fun e => by rw [hhas.1 e] at hsq; cases hsq
                      obtain ⟨V, hV⟩ : ∃ V, land H1 (smV q) = V := ⟨_, rfl⟩
                      rw [hV] at hbw hld
                      have hldB : ((V : Int) != 0) = true := by rw [bne_iff_ne]; omega
                      have hldC : ((V : Int) = 0) = False := eq_false (by omega)
                      have hldD : decide (V = 0) = false := decide_eq_false hld
                      clear hhas hV
                      rw [hsq, hLk] at hf2
                      by_cases hkq : k / 13 = q
                      · have hkqB : ((k : Int) / 13 == (q : Int)) = true := by rw [beq_iff_eq]; omega
                        rw [decide_eq_true hkq] at hf2
                        have hb1 : H1.testBit k = L.testBit k := by rw [hLk, hf2]; simp
                        rw [hLk] at hb1
                        clear hf2 hkq
                        go_wp2_with fail
                        go_meet
                        case rel => rfl
                      · have hkqB : ((k : Int) / 13 == (q : Int)) = false := by rw [beq_eq_false_iff_ne]; omega
                        rw [decide_eq_false hkq] at hf2
                        clear hkq
                        cases hb1 : H1.testBit k
                        · rw [hb1] at hf2
                          first
                            | (simp at hf2; done)
                            | (clear hf2; go_wp2_with fail; go_meet; (case rel => rfl))
                        · rw [hb1] at hf2
                          first
                            | (simp at hf2; done)
                            | (clear hf2; go_wp2_with fail; go_meet; (case rel => rfl))
                case rest =>
                  have hcut2 := hcut.symm
                  subst hcut2
                  have HDV : Hid (Calls Tryd.prog 18 #[.pointer (some ⟨B, 0, none⟩), .int .u8 (k : Int)] wr fun e W' => e = .returned (.int .i64 122) ∧ InP W' B ({ p with back := b } : Ply) G1 ∧ Kept G1 wr W') := Lib.hid (by
                    have := in_do H k hk256 (by rw [hdv]; exact H.ok)
                    rw [hdv] at this; exact this)
                  clear hdv
                  go_upto_region 24 with (go_at_call 18; refine HDV.out.mono ?_; rintro e W7 ⟨rfl, H7, hk7⟩)
                  have R7 := R.kept hGK hk7
                  clear d0 d1 d2 d3 d4 d5 d6 d7 d8 d9 R
                  have d0 := R7.cell 0
                  have d1 := R7.cell 1
                  have d2 := R7.cell 2
                  have d3 := R7.cell 3
                  have d4 := R7.cell 4
                  have d5 := R7.cell 5
                  have d6 := R7.cell 6
                  have d7 := R7.cell 7
                  have d8 := R7.cell 8
                  have d9 := R7.cell 9
                  simp only [List.getElem?_toArray, List.getElem?_cons_zero, List.getElem?_cons_succ] at d0 d1 d2 d3 d4 d5 d6 d7 d8 d9
                  have rd0 := fun dd os => cell_regrown d0 dd os
                  have rd1 := fun dd os => cell_regrown d1 dd os
                  have rd2 := fun dd os => cell_regrown d2 dd os
                  have rd3 := fun dd os => cell_regrown d3 dd os
                  have rd4 := fun dd os => cell_regrown d4 dd os
                  have rd5 := fun dd os => cell_regrown d5 dd os
                  have rd6 := fun dd os => cell_regrown d6 dd os
                  have rd7 := fun dd os => cell_regrown d7 dd os
                  have rd8 := fun dd os => cell_regrown d8 dd os
                  have rd9 := fun dd os => cell_regrown d9 dd os
                  clear R7
                  refine wp_region_quiet_below (by kernel_rfl) (by kernel_rfl) ?_
                  repeat (first | go_big_quiet_step (exact Calls.regrown_of (HLK.out _ b _ (H7.regrown _ _))) | quiet_step (fail))
                  refine wpQuiet_nil ?_
                  rintro _ ⟨q, rfl⟩
                  have hb9 := below_regrown W7 q.d q.os
                  generalize grow (redrawn W7 q.d) q.os = w9 at *
                  go_wp2_with fail
                  go_roundw
                  case rel => exact ⟨k + 1, b, by omega, by go_num, H7.below hb9, (HK.trans hk7).trans (Kept.of_below hb9)⟩
                  case measure => simp [intOf]; omega
              · have hdv : ({ p with back := b } : Ply).doV k = (0, ({ p with back := [] } : Ply).put k) := do_yes HO.out ⟨hk52, by rw [HLE.out, hLk]⟩
                have hpok := (HPI.out.do HD.out (c := k) (by rw [HLE.out, hLk])).2.ok
                have HPOK := Lib.hid hpok
                go_upto_if 84 with fail
                go_cut [] from 78 to 123 (fun w' => w' = wr)
                case first =>
                  clear hdv
                  by_cases hm0 : m = 0
                  · have hm0I : decide ((m : Int) > 0) = false := by rw [decide_eq_false_iff_not]; omega
                    have hb1 : H1.testBit k = L.testBit k := by rw [HFM.out, decide_eq_true hm0]; simp
                    rw [hLk] at hb1
                    go_wp2_with fail
                    go_meet
                    case rel => rfl
                  · have hm0I : decide ((m : Int) > 0) = true := by rw [decide_eq_true_eq]; omega
                    have hm0I2 : (0 : Int) < (m : Int) := by omega
                    have hm0N : decide (0 < m) = true := by rw [decide_eq_true_eq]; omega
                    obtain ⟨bb, off, hae, hbl, hcells⟩ := HZV.out.at (by omega)
                    have hl0 := hcells 0 (by omega)
                    have hl52 := getD52' HTCL.out.2 0
                    have hl1 := (HK.cell (p := ⟨bb, off + 0, none⟩) (HGAV.out _ hae).1 (HGAV.out _ hae).2).trans hl0
                    have hf2 := HFM.out
                    rw [decide_eq_false hm0, Bool.false_or, y_suit_div hk52, y_suit_div hl52] at hf2
                    rw [Nat.add_zero] at hl1
                    clear hcells hl0
                    subst hae
                    generalize tc.getD 0 0 = l0 at *
                    obtain ⟨q, hq⟩ : ∃ q, l0 / 13 = q := ⟨_, rfl⟩
                    have hq3 : q ≤ 3 := by omega
                    have hqi : (l0 : Int) / 13 = (q : Int) := by omega
                    rw [hq] at hf2
                    have hbw := sm_bits hq3 hH64
                    have hhas := smV_has hq3 HH52.out
                    clear hq
                    cases hsq : hasS q H1
                    · have hld : land H1 (smV q) = 0 := hhas.2 hsq
                      have hbw0 : bits BinOp.and IntKind.u64 (H1 : Int) (IntKind.u64.wrap (8191 * 2 ^ (13 * q))) = 0 := by rw [hbw, hld]; rfl
                      clear hhas hld hbw
                      rw [hsq] at hf2
                      have hb1 : H1.testBit k = L.testBit k := by rw [hf2]; simp
                      rw [hLk] at hb1
                      clear hf2
                      go_wp2_with fail
                      go_meet
                      case rel => rfl
                    · have hld : land H1 (smV q) ≠ 0 := fun e => by rw [hhas.1 e] at hsq; cases hsq
                      obtain ⟨V, hV⟩ : ∃ V, land H1 (smV q) = V := ⟨_, rfl⟩
                      rw [hV] at hbw hld
                      have hldB : ((V : Int) != 0) = true := by rw [bne_iff_ne]; omega
                      have hldC : ((V : Int) = 0) = False := eq_false (by omega)
                      have hldD : decide (V = 0) = false := decide_eq_false hld
                      clear hhas hV
                      rw [hsq, hLk] at hf2
                      by_cases hkq : k / 13 = q
                      · have hkqB : ((k : Int) / 13 == (q : Int)) = true := by rw [beq_iff_eq]; omega
                        rw [decide_eq_true hkq] at hf2
                        have hb1 : H1.testBit k = L.testBit k := by rw [hLk, hf2]; simp
                        rw [hLk] at hb1
                        clear hf2 hkq
                        go_wp2_with fail
                        go_meet
                        case rel => rfl
                      · have hkqB : ((k : Int) / 13 == (q : Int)) = false := by rw [beq_eq_false_iff_ne]; omega
                        rw [decide_eq_false hkq] at hf2
                        clear hkq
                        cases hb1 : H1.testBit k
                        · rw [hb1] at hf2
                          first
                            | (simp at hf2; done)
                            | (clear hf2; go_wp2_with fail; go_meet; (case rel => rfl))
                        · rw [hb1] at hf2
                          first
                            | (simp at hf2; done)
                            | (clear hf2; go_wp2_with fail; go_meet; (case rel => rfl))
                case rest =>
                  have hcut2 := hcut.symm
                  subst hcut2
                  have HDV : Hid (Calls Tryd.prog 18 #[.pointer (some ⟨B, 0, none⟩), .int .u8 (k : Int)] wr fun e W' => e = .returned (.int .i64 0) ∧ InP W' B (({ p with back := [] } : Ply).put k) G1 ∧ Kept G1 wr W') := Lib.hid (by
                    have := in_do H k hk256 (by rw [hdv]; exact hpok)
                    rw [hdv] at this; exact this)
                  clear hdv
                  go_upto_region 24 with (go_at_call 18; refine HDV.out.mono ?_; rintro e W7 ⟨rfl, H7, hk7⟩)
                  have HUN : Hid (∀ w9, Below W7.heap.size W7 w9 → Calls Tryd.prog 25 #[.pointer (some ⟨B, 0, none⟩)] w9 fun e W' => e = .returned (.int .i64 0) ∧ InP W' B ({ p with back := [k] } : Ply) G1 ∧ Kept G1 w9 W') := Lib.hid (fun w9 hb => by
                    have := in_undo (H7.below hb) (undoV_ok hpok)
                    rw [undo_put] at this; exact this)
                  refine wp_region_quiet_below (by kernel_rfl) (by kernel_rfl) ?_
                  repeat (first | go_big_quiet_step (fail) | quiet_step (fail))
                  refine wpQuiet_nil ?_
                  rintro _ ⟨q, rfl⟩
                  have hb9 := below_regrown W7 q.d q.os
                  generalize grow (redrawn W7 q.d) q.os = w9 at *
                  go_wp2_with (go_at_call 25; refine (HUN.out _ hb9).mono ?_; rintro e W8 ⟨rfl, H8, hk8⟩)
                  go_roundw
                  case rel => exact ⟨k + 1, [k], by omega, by go_num, H8, ((HK.trans hk7).trans (Kept.of_below hb9)).trans hk8⟩
                  case measure => simp [intOf]; omega
            · have hk52I : decide ((k : Int) < 52) = false := by rw [decide_eq_false_iff_not]; omega
              have hdv : ({ p with back := b } : Ply).doV k = (122, { p with back := b }) := do_no HO.out (fun hh => hk52 hh.1)
              have HDV : Hid (Calls Tryd.prog 18 #[.pointer (some ⟨B, 0, none⟩), .int .u8 (k : Int)] wr fun e W' => e = .returned (.int .i64 122) ∧ InP W' B ({ p with back := b } : Ply) G1 ∧ Kept G1 wr W') := Lib.hid (by
                have := in_do H k hk256 (by rw [hdv]; exact H.ok)
                rw [hdv] at this; exact this)
              clear hdv
              go_upto_region 24 with (go_at_call 18; refine HDV.out.mono ?_; rintro e W7 ⟨rfl, H7, hk7⟩)
              have R7 := R.kept hGK hk7
              clear d0 d1 d2 d3 d4 d5 d6 d7 d8 d9 R
              have d0 := R7.cell 0
              have d1 := R7.cell 1
              have d2 := R7.cell 2
              have d3 := R7.cell 3
              have d4 := R7.cell 4
              have d5 := R7.cell 5
              have d6 := R7.cell 6
              have d7 := R7.cell 7
              have d8 := R7.cell 8
              have d9 := R7.cell 9
              simp only [List.getElem?_toArray, List.getElem?_cons_zero, List.getElem?_cons_succ] at d0 d1 d2 d3 d4 d5 d6 d7 d8 d9
              have rd0 := fun dd os => cell_regrown d0 dd os
              have rd1 := fun dd os => cell_regrown d1 dd os
              have rd2 := fun dd os => cell_regrown d2 dd os
              have rd3 := fun dd os => cell_regrown d3 dd os
              have rd4 := fun dd os => cell_regrown d4 dd os
              have rd5 := fun dd os => cell_regrown d5 dd os
              have rd6 := fun dd os => cell_regrown d6 dd os
              have rd7 := fun dd os => cell_regrown d7 dd os
              have rd8 := fun dd os => cell_regrown d8 dd os
              have rd9 := fun dd os => cell_regrown d9 dd os
              clear R7
              refine wp_region_quiet_below (by kernel_rfl) (by kernel_rfl) ?_
              repeat (first | go_big_quiet_step (exact Calls.regrown_of (HLK.out _ b _ (H7.regrown _ _))) | quiet_step (fail))
              refine wpQuiet_nil ?_
              rintro _ ⟨q, rfl⟩
              have hb9 := below_regrown W7 q.d q.os
              generalize grow (redrawn W7 q.d) q.os = w9 at *
              go_wp2_with fail
              go_roundw
              case rel => exact ⟨k + 1, b, by omega, by go_num, H7.below hb9, (HK.trans hk7).trans (Kept.of_below hb9)⟩
              case measure => simp [intOf]; omega
          · have hke : k = 256 := by omega
            subst hke
            have RF := Lib.hid R
            have d0 := R.cell 0
            have d1 := R.cell 1
            have d2 := R.cell 2
            have d3 := R.cell 3
            have d4 := R.cell 4
            have d5 := R.cell 5
            have d6 := R.cell 6
            have d7 := R.cell 7
            have d8 := R.cell 8
            have d9 := R.cell 9
            simp only [List.getElem?_toArray, List.getElem?_cons_zero, List.getElem?_cons_succ] at d0 d1 d2 d3 d4 d5 d6 d7 d8 d9
            have rd0 := fun dd os => cell_regrown d0 dd os
            have rd1 := fun dd os => cell_regrown d1 dd os
            have rd2 := fun dd os => cell_regrown d2 dd os
            have rd3 := fun dd os => cell_regrown d3 dd os
            have rd4 := fun dd os => cell_regrown d4 dd os
            have rd5 := fun dd os => cell_regrown d5 dd os
            have rd6 := fun dd os => cell_regrown d6 dd os
            have rd7 := fun dd os => cell_regrown d7 dd os
            have rd8 := fun dd os => cell_regrown d8 dd os
            have rd9 := fun dd os => cell_regrown d9 dd os
            clear R
            go_wp2_with fail
            refine wp_region_quiet_below (by kernel_rfl) (by kernel_rfl) ?_
            repeat (quiet_step (exact Calls.regrown_of (HLK.out _ b _ (H.regrown _ _))))
            refine wpQuiet_nil ?_
            rintro _ ⟨q, rfl⟩
            have hb9 := below_regrown wr q.d q.os
            generalize grow (redrawn wr q.d) q.os = w9 at *
            go_wp2_with fail
            go_ret
            exact ⟨rfl, HB6.out.trans (⟨HK.os, HK.tape, HK.output, HK.size, fun c hc => HK.block c (HGW.out c hc) (Nat.lt_of_lt_of_le hc HB6.out.size)⟩ : Below w.heap.size w6 wr) |>.trans (hb9.mono (Nat.le_trans HB6.out.size HK.size))⟩
    · obtain ⟨L, hL⟩ : ∃ L, p.st.legal = L := ⟨_, rfl⟩
      have hL0 : L = 0 := by rw [← hL]; exact legal_over ho
      have hLb : ((L : Int) != 0) = false := by rw [hL0]; rfl
      have hL64 : W64 L := by rw [hL0]; exact W64.zero
      have HL00 := Lib.hid hL0
      have hlg := fun (W' : World) (G' : Nat → Prop) (h : InP W' B p G') => in_legal h
      rw [hL] at hlg
      have HLG := Lib.hid hlg
      clear hlg hL0
      obtain ⟨h, hh⟩ : ∃ h, p.st.h = h := ⟨_, rfl⟩
      obtain ⟨ns, hns⟩ : ∃ s, tkWon p.tks 0 = s := ⟨_, rfl⟩
      obtain ⟨ew, hew⟩ : ∃ s, tkWon p.tks 1 = s := ⟨_, rfl⟩
      obtain ⟨mn, hmn⟩ : ∃ s, p.steps.length = s := ⟨_, rfl⟩
      have hte : p.tld = ⟨0, 121, L, h, ns, ew, mn⟩ := by
        have e : p.turnV = (0, 121) := by unfold Ply.turnV; rw [ho]; rfl
        unfold Ply.tld; rw [e, hL, hh, hns, hew, hmn]
      have HLK : Hid (∀ (W' : World) (b : List Nat) (G' : Nat → Prop), InP W' B ({ p with back := b } : Ply) G' → Calls Tryd.prog 23 #[.pointer (some ⟨B, 0, none⟩)] W' fun e W'' => e = .returned (.agg #[.int .u8 0, .int .i64 121, .int .u64 (L : Int), .int .u64 (h 0 : Int), .int .u64 (h 1 : Int), .int .u64 (h 2 : Int), .int .u64 (h 3 : Int), .int .i64 (ns : Int), .int .i64 (ew : Int), .int .i64 (mn : Int)]) ∧ Below W'.heap.size W' W'') := Lib.hid fun W' b G' hI => by
        have := law12_look hI
        rw [tld_back, hte] at this; exact this
      have HEQ : ∀ w', Sem.run Tryd.prog (Op.equalIn 10000 51 (.agg #[.int .u8 0, .int .i64 121, .int .u64 (L : Int), .int .u64 (h 0 : Int), .int .u64 (h 1 : Int), .int .u64 (h 2 : Int), .int .u64 (h 3 : Int), .int .i64 (ns : Int), .int .i64 (ew : Int), .int .i64 (mn : Int)]) (.agg #[.int .u8 0, .int .i64 121, .int .u64 (L : Int), .int .u64 (h 0 : Int), .int .u64 (h 1 : Int), .int .u64 (h 2 : Int), .int .u64 (h 3 : Int), .int .i64 (ns : Int), .int .i64 (ew : Int), .int .i64 (mn : Int)])) w' = .ok true w' := fun w' => eq_told ⟨0, 121, L, h, ns, ew, mn⟩ w'
      have HTK : Hid (∀ (W' : World), InP W' B p (fun g => g < w3.heap.size) → Calls Tryd.prog 24 #[.pointer (some ⟨B, 0, none⟩)] W' fun e W'' => ∃ v, e = .returned (.tuple #[.int .u8 (p.st.trLd : Int), v]) ∧ OwnU W'' W'.heap.size v p.st.trCs ∧ Below W'.heap.size W' W'') := Lib.hid fun W' hI => in_Trick hI
      have HPI := Lib.hid hp
      have HO := Lib.hid ho
      have HH := Lib.hid hh
      have HLE := Lib.hid hL
      obtain ⟨tc, htc⟩ : ∃ tc, p.st.trCs = tc := ⟨_, rfl⟩
      obtain ⟨tld, htld⟩ : ∃ tc, p.st.trLd = tc := ⟨_, rfl⟩
      have htcl : tc.length ≤ 3 ∧ ∀ c ∈ tc, c < 52 := by
        rw [← htc]; exact trCs_ok hp
      have HTC := Lib.hid htc
      have HTCL := Lib.hid htcl
      rw [htc, htld] at HTK
      obtain ⟨m, hm⟩ : ∃ m, tc.length = m := ⟨_, rfl⟩
      have hm3 : m ≤ 3 := by rw [← hm]; exact htcl.1
      have HMM := Lib.hid hm
      clear hL ho hp hl hi hte hh hns hew hmn htc htcl hm htld
      go_upto_region 12 with (first
        | (go_at_call 14; refine (HLG.out _ _ H).mono ?_; rintro e W3 ⟨rfl, hb3⟩)
        | (go_at_call 23; refine (HLK.out _ p.back _ (H.below hb3)).mono ?_; rintro e W4 ⟨rfl, hb4⟩))
      have hBa := hb3.trans (hb4.mono hb3.size)
      have hBb := hBa.alloc hBa.size (.cells #[.int .u8 0, .int .i64 121, .int .u64 (L : Int), .int .u64 (h 0 : Int), .int .u64 (h 1 : Int), .int .u64 (h 2 : Int), .int .u64 (h 3 : Int), .int .i64 (ns : Int), .int .i64 (ew : Int), .int .i64 (mn : Int)] 51)
      have hRT := Row.new W4 51 #[.int .u8 0, .int .i64 121, .int .u64 (L : Int), .int .u64 (h 0 : Int), .int .u64 (h 1 : Int), .int .u64 (h 2 : Int), .int .u64 (h 3 : Int), .int .i64 (ns : Int), .int .i64 (ew : Int), .int .i64 (mn : Int)]
      have hKs := hBa.size
      clear hBa hb3 hb4
      generalize W4.alloc (.cells #[.int .u8 0, .int .i64 121, .int .u64 (L : Int), .int .u64 (h 0 : Int), .int .u64 (h 1 : Int), .int .u64 (h 2 : Int), .int .u64 (h 3 : Int), .int .i64 (ns : Int), .int .i64 (ew : Int), .int .i64 (mn : Int)] 51) = w5 at *
      generalize W4.heap.size = K at *
      go_wp2_with (go_at_call 24; refine (HTK.out _ (H.below hBb)).mono ?_; rintro e w6 ⟨v, rfl, how, hb6⟩; obtain ⟨av, cv, rfl, _, _, _, hav, hzv⟩ := how.byt (by have := HTCL.out.1; omega) (fun j => by have := getD52' HTCL.out.2 j; omega); rw [HMM.out] at hzv ⊢)
      clear how
      have hR6 := hRT.below hRT.lt hb6
      have hBc := hBb.trans (hb6.mono hBb.size)
      have hKl : K < w6.heap.size := hR6.lt
      have H6 : InP w6 B ({ p with back := p.back } : Ply) (fun g => g < w3.heap.size ∨ (wr.heap.size ≤ g ∧ g < w6.heap.size)) := H.more hBc (fun g hg => hg) (.inl (Nat.lt_of_lt_of_le (Nat.lt_of_lt_of_le hT.pos hwl) (Nat.le_refl _)))
      have hwr : w3.heap.size ≤ wr.heap.size := HK.size
      have HB6 : Hid (Below w.heap.size w w6) := Lib.hid ((HB3.out.trans ((kept_below HK).mono hwl)).trans (hBc.mono (Nat.le_trans hwl HK.size)))
      have hww : w.heap.size ≤ wr.heap.size := Nat.le_trans hwl HK.size
      have HR6 := Lib.hid hR6
      have HZV := Lib.hid hzv
      have HAV : Hid (∀ ad, av = some ad → wr.heap.size ≤ ad.block ∧ ad.block < w6.heap.size) := Lib.hid fun ad he => ⟨by have := (hav ad he).1; have := hBb.size; omega, (hav ad he).2⟩
      obtain ⟨G1, hG1⟩ : ∃ G1 : Nat → Prop, G1 = (fun g => g < w3.heap.size ∨ (wr.heap.size ≤ g ∧ g < w6.heap.size)) := ⟨_, rfl⟩
      rw [← hG1] at H6
      have hGK : G1 K := by rw [hG1]; exact .inr ⟨by omega, hKl⟩
      have HGAV : Hid (∀ ad, av = some ad → G1 ad.block ∧ ad.block < w6.heap.size) := Lib.hid fun ad he => ⟨by rw [hG1]; exact .inr (HAV.out ad he), (HAV.out ad he).2⟩
      have HGW : Hid (∀ b, b < w.heap.size → G1 b) := Lib.hid fun b hb => by rw [hG1]; exact .inl (by omega)
      clear hb6 hRT hBb hav hzv hR6 hBc H HK HTK HLG hG1 HAV hww hwr hKs
      go_loopw [63] (fun j wq => ∃ (k : Nat) (b : List Nat), k ≤ 256 ∧ j = .int .i64 (k : Int) ∧ InP wq B ({ p with back := b } : Ply) G1 ∧ Kept G1 w6 wq) (fun j _ => 256 - (intOf j).toNat)
      case atStart => exact ⟨0, p.back, by omega, rfl, H6, Kept.refl _ _⟩
      case round =>
        obtain ⟨k, b, hk, rfl, H, HK⟩ := hrel
        clear H6
        have R := HR6.out.kept hGK HK
        by_cases hk256 : k < 256
        · have hwl2 := hwl
          have d0 := R.cell 0
          have d1 := R.cell 1
          have d2 := R.cell 2
          have d3 := R.cell 3
          have d4 := R.cell 4
          have d5 := R.cell 5
          have d6 := R.cell 6
          have d7 := R.cell 7
          have d8 := R.cell 8
          have d9 := R.cell 9
          simp only [List.getElem?_toArray, List.getElem?_cons_zero, List.getElem?_cons_succ] at d0 d1 d2 d3 d4 d5 d6 d7 d8 d9
          have hL64' : W64 L := hL64
          have hdv : ({ p with back := b } : Ply).doV k = (121, { p with back := b }) := do_over HO.out
          have hLk : L.testBit k = false := by rw [HL00.out]; exact Nat.zero_testBit _
          by_cases hk52 : k < 52
          · have hk52I : decide ((k : Int) < 52) = true := by rw [decide_eq_true_eq]; omega
            have HDV : Hid (Calls Tryd.prog 18 #[.pointer (some ⟨B, 0, none⟩), .int .u8 (k : Int)] wr fun e W' => e = .returned (.int .i64 121) ∧ InP W' B ({ p with back := b } : Ply) G1 ∧ Kept G1 wr W') := Lib.hid (by
              have := in_do H k hk256 (by rw [hdv]; exact H.ok)
              rw [hdv] at this; exact this)
            clear hdv
            go_upto_region 24 with (go_at_call 18; refine HDV.out.mono ?_; rintro e W7 ⟨rfl, H7, hk7⟩)
            have R7 := R.kept hGK hk7
            clear d0 d1 d2 d3 d4 d5 d6 d7 d8 d9 R
            have d0 := R7.cell 0
            have d1 := R7.cell 1
            have d2 := R7.cell 2
            have d3 := R7.cell 3
            have d4 := R7.cell 4
            have d5 := R7.cell 5
            have d6 := R7.cell 6
            have d7 := R7.cell 7
            have d8 := R7.cell 8
            have d9 := R7.cell 9
            simp only [List.getElem?_toArray, List.getElem?_cons_zero, List.getElem?_cons_succ] at d0 d1 d2 d3 d4 d5 d6 d7 d8 d9
            have rd0 := fun dd os => cell_regrown d0 dd os
            have rd1 := fun dd os => cell_regrown d1 dd os
            have rd2 := fun dd os => cell_regrown d2 dd os
            have rd3 := fun dd os => cell_regrown d3 dd os
            have rd4 := fun dd os => cell_regrown d4 dd os
            have rd5 := fun dd os => cell_regrown d5 dd os
            have rd6 := fun dd os => cell_regrown d6 dd os
            have rd7 := fun dd os => cell_regrown d7 dd os
            have rd8 := fun dd os => cell_regrown d8 dd os
            have rd9 := fun dd os => cell_regrown d9 dd os
            clear R7
            refine wp_region_quiet_below (by kernel_rfl) (by kernel_rfl) ?_
            repeat (first | go_big_quiet_step (exact Calls.regrown_of (HLK.out _ b _ (H7.regrown _ _))) | quiet_step (fail))
            refine wpQuiet_nil ?_
            rintro _ ⟨q, rfl⟩
            have hb9 := below_regrown W7 q.d q.os
            generalize grow (redrawn W7 q.d) q.os = w9 at *
            go_wp2_with fail
            go_roundw
            case rel => exact ⟨k + 1, b, by omega, by go_num, H7.below hb9, (HK.trans hk7).trans (Kept.of_below hb9)⟩
            case measure => simp [intOf]; omega
          · have hk52I : decide ((k : Int) < 52) = false := by rw [decide_eq_false_iff_not]; omega
            have HDV : Hid (Calls Tryd.prog 18 #[.pointer (some ⟨B, 0, none⟩), .int .u8 (k : Int)] wr fun e W' => e = .returned (.int .i64 121) ∧ InP W' B ({ p with back := b } : Ply) G1 ∧ Kept G1 wr W') := Lib.hid (by
              have := in_do H k hk256 (by rw [hdv]; exact H.ok)
              rw [hdv] at this; exact this)
            clear hdv
            go_upto_region 24 with (go_at_call 18; refine HDV.out.mono ?_; rintro e W7 ⟨rfl, H7, hk7⟩)
            have R7 := R.kept hGK hk7
            clear d0 d1 d2 d3 d4 d5 d6 d7 d8 d9 R
            have d0 := R7.cell 0
            have d1 := R7.cell 1
            have d2 := R7.cell 2
            have d3 := R7.cell 3
            have d4 := R7.cell 4
            have d5 := R7.cell 5
            have d6 := R7.cell 6
            have d7 := R7.cell 7
            have d8 := R7.cell 8
            have d9 := R7.cell 9
            simp only [List.getElem?_toArray, List.getElem?_cons_zero, List.getElem?_cons_succ] at d0 d1 d2 d3 d4 d5 d6 d7 d8 d9
            have rd0 := fun dd os => cell_regrown d0 dd os
            have rd1 := fun dd os => cell_regrown d1 dd os
            have rd2 := fun dd os => cell_regrown d2 dd os
            have rd3 := fun dd os => cell_regrown d3 dd os
            have rd4 := fun dd os => cell_regrown d4 dd os
            have rd5 := fun dd os => cell_regrown d5 dd os
            have rd6 := fun dd os => cell_regrown d6 dd os
            have rd7 := fun dd os => cell_regrown d7 dd os
            have rd8 := fun dd os => cell_regrown d8 dd os
            have rd9 := fun dd os => cell_regrown d9 dd os
            clear R7
            refine wp_region_quiet_below (by kernel_rfl) (by kernel_rfl) ?_
            repeat (first | go_big_quiet_step (exact Calls.regrown_of (HLK.out _ b _ (H7.regrown _ _))) | quiet_step (fail))
            refine wpQuiet_nil ?_
            rintro _ ⟨q, rfl⟩
            have hb9 := below_regrown W7 q.d q.os
            generalize grow (redrawn W7 q.d) q.os = w9 at *
            go_wp2_with fail
            go_roundw
            case rel => exact ⟨k + 1, b, by omega, by go_num, H7.below hb9, (HK.trans hk7).trans (Kept.of_below hb9)⟩
            case measure => simp [intOf]; omega
        · have hke : k = 256 := by omega
          subst hke
          have RF := Lib.hid R
          have d0 := R.cell 0
          have d1 := R.cell 1
          have d2 := R.cell 2
          have d3 := R.cell 3
          have d4 := R.cell 4
          have d5 := R.cell 5
          have d6 := R.cell 6
          have d7 := R.cell 7
          have d8 := R.cell 8
          have d9 := R.cell 9
          simp only [List.getElem?_toArray, List.getElem?_cons_zero, List.getElem?_cons_succ] at d0 d1 d2 d3 d4 d5 d6 d7 d8 d9
          have rd0 := fun dd os => cell_regrown d0 dd os
          have rd1 := fun dd os => cell_regrown d1 dd os
          have rd2 := fun dd os => cell_regrown d2 dd os
          have rd3 := fun dd os => cell_regrown d3 dd os
          have rd4 := fun dd os => cell_regrown d4 dd os
          have rd5 := fun dd os => cell_regrown d5 dd os
          have rd6 := fun dd os => cell_regrown d6 dd os
          have rd7 := fun dd os => cell_regrown d7 dd os
          have rd8 := fun dd os => cell_regrown d8 dd os
          have rd9 := fun dd os => cell_regrown d9 dd os
          clear R
          go_wp2_with fail
          refine wp_region_quiet_below (by kernel_rfl) (by kernel_rfl) ?_
          repeat (quiet_step (exact Calls.regrown_of (HLK.out _ b _ (H.regrown _ _))))
          refine wpQuiet_nil ?_
          rintro _ ⟨q, rfl⟩
          have hb9 := below_regrown wr q.d q.os
          generalize grow (redrawn wr q.d) q.os = w9 at *
          go_wp2_with fail
          go_ret
          exact ⟨rfl, HB6.out.trans (⟨HK.os, HK.tape, HK.output, HK.size, fun c hc => HK.block c (HGW.out c hc) (Nat.lt_of_lt_of_le hc HB6.out.size)⟩ : Below w.heap.size w6 wr) |>.trans (hb9.mono (Nat.le_trans HB6.out.size HK.size))⟩
theorem law_PlayLegal (a : Option Addr) (len cap : Nat) (zs : List Nat) (n c : Nat) (a2 : Option Addr) (len2 cap2 : Nat) (zs2 : List Nat) (w : World) (hz : Byt w a len zs) (hn : n < 256) (hc : c < 256) (hz2 : Byt w a2 len2 zs2) (hT : Tab w) :
    Calls Tryd.prog 6 #[.slice a len cap, .int .u8 (n : Int), .int .u8 (c : Int), .slice a2 len2 cap2] w fun e w' => e = .returned (.bool true) ∧ Below w.heap.size w w' :=
  pl_all ⟨zs, n, c⟩ a len cap a2 len2 cap2 zs2 w hz hz2 hn hc hT
end Go.Proofs.YtginbellakkliaaDoor
