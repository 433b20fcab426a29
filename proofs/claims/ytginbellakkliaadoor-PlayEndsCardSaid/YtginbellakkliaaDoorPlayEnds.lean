/- finesselaw12.PlayEnds walked over this seat's program. -/
import Derived.Test.YtginbellakkliaaDoorPyEo
import Derived.Deep.CutRange
namespace Go.Proofs.YtginbellakkliaaDoor
open Go.RowKit Go.Shelf Go.Sort
attribute [local go_sem] Oper.semAt_some

theorem kept_below {w W : World} (h : Kept (fun k => k < w.heap.size) w W) : Below w.heap.size w W := ⟨h.os, h.tape, h.output, h.size, fun k hk => h.block k hk hk⟩
theorem getD52 {l : List Nat} (h : ∀ c ∈ l, c < 52) (i : Nat) : l.getD i 0 < 52 := by
  rw [List.getD_eq_getElem?_getD]
  cases hi : l[i]? with
  | none => decide
  | some y => exact h y (List.mem_of_getElem? hi)
theorem app_size {n : Nat} {W w8 : World} {o : Obj} {row : Option Nat} (h : n ≤ W.heap.size) (g : (W.alloc o).grownBy w8 row) : n ≤ w8.heap.size := by
  have e1 : (W.alloc o).heap.size = W.heap.size + 1 := World.size_alloc _ _
  have := (Kept.of_grown (S := fun b => some b ≠ row) g (fun k hk => hk)).size
  omega
theorem own_byt {w : World} {base : Nat} {a : Option Addr} {n c : Nat} {zs : List Nat} (h : OwnU w base (.slice a n c) zs) (hs : zs.length ≤ 60) (hb : ∀ c ∈ zs, c < 52) : Byt w a n zs := by
  obtain ⟨a', c', he, _, _, _, _, hby⟩ := OwnU.byt h (by omega) (fun i => by have := getD52 hb i; omega)
  injection he with h1 h2 h3
  subst h1
  rw [h2]; exact hby
theorem chooser_go {p : Ply} (ho : p.st.over = false) : p.chooserV = (if p.st.next = p.dummy then p.dc else p.st.next, 0) := by
  unfold Ply.chooserV; rw [ho, if_neg (by decide)]; split <;> rfl
attribute [local irreducible] Mn.d Mn.lv Mn.dn Mn.rk Mn.dc
set_option maxHeartbeats 40000000 in
set_option maxRecDepth 100000 in
theorem pe_all (x : Mn) (a : Option Addr) (len cap : Nat) (a2 : Option Addr) (len2 cap2 : Nat) (zs2 : List Nat) (w : World) (hz : Byt w a len x.zs) (hz2 : Byt w a2 len2 zs2) (hn : x.n < 256) (hc : x.c < 256) (hT : Tab w) :
    Calls Tryd.prog 8 #[.slice a len cap, .int .u8 (x.n : Int), .int .u8 (x.c : Int), .slice a2 len2 cap2] w fun e w' => e = .returned (.bool true) ∧ Below w.heap.size w w' := by
  have HA := Lib.hid (fun (w1 : World) (h : Below w.heap.size w w1) => law12_awake w1 (hT.below hT.pos h))
  have HM := Lib.hid (fun (w1 : World) (h : Below w.heap.size w w1) => law12_made x a len cap w1 (hz.below (Nat.le_refl _) h) hn hc)
  have HD := Lib.hid (made_deal4 x)
  have hel := x.each_le
  have hpp := made_pop x 0 (by decide)
  have hct : x.lv ≤ 7 ∧ 1 ≤ x.lv ∧ x.dn ≤ 4 ∧ x.rk ≤ 2 ∧ x.dc ≤ 3 := by unfold Mn.lv Mn.dn Mn.rk Mn.dc; omega
  have hdc3 : x.dc ≤ 3 := hct.2.2.2.2
  have hdn4 : x.dn ≤ 4 := hct.2.2.1
  clear hct
  go_enter Tryd.func8, Tryd.ntmps8
  go_upto_region 4 with (first
    | (go_at_call 11; refine (HA.out _ (Below.refl _ _)).mono ?_; rintro e w1 ⟨rfl, hb1⟩)
    | (go_at_call 12; refine (HM.out _ hb1).mono ?_; rintro e w2 ⟨rfl, hb2⟩))
  clear HA HM
  obtain ⟨hR0, hR1⟩ := newW_rows x.d x.lv x.dn x.rk x.dc w2
  have hB3 := (hb1.trans (hb2.mono hb1.size)).trans ((newW_below x.d x.lv x.dn x.rk x.dc w2).mono (Nat.le_trans hb1.size hb2.size))
  have hN : w.heap.size ≤ w2.heap.size := Nat.le_trans hb1.size hb2.size
  dsimp only [newW] at hR0 hR1 hB3
  generalize (w2.alloc (.cells #[.int .u64 (x.d 0 : Int), .int .u64 (x.d 1 : Int), .int .u64 (x.d 2 : Int), .int .u64 (x.d 3 : Int)] 26)).alloc (.cells #[.int .u8 (x.lv : Int), .int .u8 (x.dn : Int), .int .u8 (x.rk : Int), .int .u8 (x.dc : Int)] 28) = w3 at *
  generalize w2.heap.size = N at *
  clear hb1 hb2
  have q0 := hR0.cell 0
  have q1 := hR0.cell 1
  have q2 := hR0.cell 2
  have q3 := hR0.cell 3
  simp only [List.getElem?_toArray, List.getElem?_cons_zero, List.getElem?_cons_succ] at q0 q1 q2 q3
  have m0 := hR1.cell 0
  have m1 := hR1.cell 1
  have m2 := hR1.cell 2
  have m3 := hR1.cell 3
  simp only [List.getElem?_toArray, List.getElem?_cons_zero, List.getElem?_cons_succ] at m0 m1 m2 m3
  have HNP : Hid (Calls Tryd.prog 13 #[.agg #[.int .u64 (x.d 0 : Int), .int .u64 (x.d 1 : Int), .int .u64 (x.d 2 : Int), .int .u64 (x.d 3 : Int)], .agg #[.int .u8 (x.lv : Int), .int .u8 (x.dn : Int), .int .u8 (x.rk : Int), .int .u8 (x.dc : Int)]] w3 fun e W' =>
      ∃ B, e = .returned (.tuple #[.pointer (some ⟨B, 0, none⟩), .int .i64 0]) ∧ InP W' B (newP x.d x.lv x.dn x.rk x.dc) (fun g => g < w3.heap.size) ∧ Below w3.heap.size w3 W') :=
      Lib.hid (in_new x.d x.lv x.dn x.rk x.dc (made_w64 x) (made_new x) _ w3 (fun g hg => hg) (hT.below hT.pos hB3) (Nat.lt_of_lt_of_le hT.pos hB3.size))
  have HP0 := Lib.hid (PInv.new x)
  have HL0 : Hid ((newP x.d x.lv x.dn x.rk x.dc).dc = x.dc ∧ (newP x.d x.lv x.dn x.rk x.dc).dn = x.dn ∧ (newP x.d x.lv x.dn x.rk x.dc).steps = [] ∧ (newP x.d x.lv x.dn x.rk x.dc).st.trick = [] ∧ (newP x.d x.lv x.dn x.rk x.dc).tks = [] ∧ (newP x.d x.lv x.dn x.rk x.dc).st.ld = (x.dc + 1) % 4) := Lib.hid ⟨rfl, rfl, rfl, rfl, new_tks _ _ _ _ _, rfl⟩
  generalize newP x.d x.lv x.dn x.rk x.dc = p0 at *
  have HR0 := Lib.hid hR0
  have HR1 := Lib.hid hR1
  have HB3 := Lib.hid hB3
  have hNl : N + 1 < w3.heap.size := hR1.lt
  have hwl : w.heap.size ≤ w3.heap.size := hB3.size
  clear hR0 hR1 hB3
  have hw0 := made_w64 x 0
  have hld0 : ((x.dc : Int) + 1) % 4 = (((x.dc + 1) % 4 : Nat) : Int) := by omega
  go_upto_region 7 with (go_at_call 13; refine HNP.out.mono ?_; rintro e W0 ⟨B, rfl, H0, hb4⟩)
  clear HNP q0 q1 q2 q3 m0 m1 m2 m3
  have S0 := HR0.out.below HR0.out.lt hb4
  have S1 := HR1.out.below HR1.out.lt hb4
  have q0 : W0.cell? ⟨N, 0, none⟩ = some (.int .u64 (x.d 0 : Int)) := S0.cell 0
  have m3 : W0.cell? ⟨N + 1, 3, none⟩ = some (.int .u8 (x.dc : Int)) := S1.cell 3
  go_upto_region 9 with (go_at_call 27; refine (bits_ones (x.d 0) hw0 _).mono ?_; rintro e w' ⟨rfl, rfl⟩)
  rw [hld0]
  have hsz1 : (W0.alloc (.cells #[.int .i64 0, .int .i64 0] 58)).heap.size = W0.heap.size + 1 := World.size_alloc _ _
  have hWn := Row.new W0 58 #[.int .i64 0, .int .i64 0]
  have H1 : InP (W0.alloc (.cells #[.int .i64 0, .int .i64 0] 58)) B p0 (fun g => g < w3.heap.size ∨ (W0.heap.size ≤ g ∧ g < (W0.alloc (.cells #[.int .i64 0, .int .i64 0] 58)).heap.size)) := H0.more ((Below.refl _ _).alloc (Nat.le_refl _) _) (fun g hg => hg) (.inl (Nat.lt_of_lt_of_le hT.pos hwl))
  have hB1 : Below w3.heap.size w3 (W0.alloc (.cells #[.int .i64 0, .int .i64 0] 58)) := hb4.alloc hb4.size _
  have hgn : W0.heap.size < (W0.alloc (.cells #[.int .i64 0, .int .i64 0] 58)).heap.size := by rw [hsz1]; omega
  have hW30 : w3.heap.size ≤ W0.heap.size := hb4.size
  clear H0 S0 S1 q0 m3 hb4
  generalize (W0.alloc (.cells #[.int .i64 0, .int .i64 0] 58)) = W1 at *
  generalize hVV : W0.heap.size = V at *
  clear hVV
  obtain ⟨n, hn⟩ : ∃ n, x.each = n := ⟨_, rfl⟩
  rw [hn] at hel HP0 HD hpp ⊢
  clear hn
  have HV : Hid (W1.heap.size = V + 1) := Lib.hid hsz1
  clear hsz1
  go_wp2_with fail
  go_loopw [14, 16, 17, 64] (fun l v1 v2 i wr => ∃ (p : Ply) (t : Nat) (G : Nat → Prop), i = .int .i64 (p.steps.length : Int) ∧ l = .int .u8 (p.st.ld : Int) ∧ InP wr B p G ∧ PInv x.d n p t ∧ p.dc = x.dc ∧ p.dn = x.dn ∧
      OwnU wr W1.heap.size v1 (p.steps.map Stp.c) ∧ OwnU wr W1.heap.size v2 p.st.trick ∧ (∀ g, v1.ownBlock = some g → G g ∧ v2.ownBlock ≠ some g) ∧ (∀ g, v2.ownBlock = some g → G g) ∧ (∀ g, g < w3.heap.size ∨ g = V → G g) ∧
      Row wr V 58 #[.int .i64 (tkWon p.tks 0 : Int), .int .i64 (tkWon p.tks 1 : Int)] ∧ Below w3.heap.size w3 wr ∧ W1.heap.size ≤ wr.heap.size) (fun _ _ _ i _ => 53 - (intOf i).toNat)
  case atStart => exact ⟨p0, 0, _, by rw [HL0.out.2.2.1]; rfl, by rw [HL0.out.2.2.2.2.2], H1, HP0.out, HL0.out.1, HL0.out.2.1, by rw [HL0.out.2.2.1]; exact Owns.nil encU_len _ _, by rw [HL0.out.2.2.2.1]; exact Owns.nil encU_len _ _, (fun g e => by simp [Value.ownBlock] at e), (fun g e => by simp [Value.ownBlock] at e), (fun g hg => by rcases hg with h | h; exact .inl h; exact .inr ⟨by omega, by omega⟩), by rw [HL0.out.2.2.2.2.1]; exact hWn, hB1, Nat.le_refl _⟩
  case round =>
    obtain ⟨p, t, G, rfl, rfl, H, hp, hdc, hdn, ho1, ho2, hg1, hg2, hgw, hrw, hB, hWs⟩ := hrel
    clear H1 hWn hB1
    have hov := en_over hp
    have hld4 := hp.ok.st.ld
    have hct4 := hp.ok.st.ct
    have hmany := hp.many
    have htl := trick_len p.st
    have ht52 := hp.trick52
    have hc52 := hp.cards52
    have hcl : (p.steps.map Stp.c).length = p.steps.length := List.length_map ..
    obtain ⟨i, hi⟩ : ∃ i, p.steps.length = i := ⟨_, rfl⟩
    rw [hi] at hov hmany hcl ⊢
    obtain ⟨m, hm⟩ : ∃ m, p.st.ct = m := ⟨_, rfl⟩
    rw [hm] at hct4 hmany htl
    obtain ⟨ld, hld⟩ : ∃ m, p.st.ld = m := ⟨_, rfl⟩
    rw [hld] at hld4 ⊢
    obtain ⟨cs, hcs⟩ : ∃ l, p.steps.map Stp.c = l := ⟨_, rfl⟩
    rw [hcs] at ho1 hc52 hcl
    obtain ⟨cu, hcu⟩ : ∃ l, p.st.trick = l := ⟨_, rfl⟩
    rw [hcu] at ho2 htl ht52
    have HI := Lib.hid hi
    have HMM := Lib.hid hm
    have HLD := Lib.hid hld
    have HCS := Lib.hid hcs
    have HCU := Lib.hid hcu
    have HDC := Lib.hid hdc
    have HDN := Lib.hid hdn
    have HPI := Lib.hid hp
    have HO1 := Lib.hid ho1
    have HO2 := Lib.hid ho2
    have HG1 := Lib.hid hg1
    have HG2 := Lib.hid hg2
    have HGW := Lib.hid hgw
    have HRW := Lib.hid hrw
    have HB := Lib.hid hB
    have HTL := Lib.hid htl
    have HT52 := Lib.hid ht52
    have HC52 := Lib.hid hc52
    have HCL := Lib.hid hcl
    have hi52 : i ≤ 52 := by omega
    have hm4 : i % 4 = m := by omega
    have HMA := Lib.hid hmany
    clear hi hm hld hcs hcu hdc hdn hp ho1 ho2 hg1 hg2 hgw hrw hB htl ht52 hc52 hcl hmany
    by_cases hlt : i < 4 * n
    · have ho : p.st.over = false := hov.2.1 hlt
      have hltI : (i : Int) < 4 * (n : Int) := by omega
      obtain ⟨L, hL⟩ : ∃ L, p.st.legal = L := ⟨_, rfl⟩
      have hL1 : L ≠ 0 := by rw [← hL]; exact HPI.out.legal_ne HD.out ho
      have hL64 : W64 L := by rw [← hL]; exact HPI.out.legal64 HD.out
      obtain ⟨s, hs⟩ : ∃ s, p.st.next = s := ⟨_, rfl⟩
      have hs4 : s < 4 := by rw [← hs]; exact next_lt _
      have hsv : s = (ld + m) % 4 := by rw [← hs]; unfold PSt.next; rw [HLD.out, HMM.out]
      obtain ⟨D, hD⟩ : ∃ D, (x.dc + 2) % 4 = D := ⟨_, rfl⟩
      have hdm : ((x.dc : Int) + 2) % 4 = (D : Int) := by omega
      have hD4 : D < 4 := by omega
      have hDne : D ≠ x.dc := by omega
      obtain ⟨ch, hch⟩ : ∃ ch, (if s = D then x.dc else s) = ch := ⟨_, rfl⟩
      have hch4 : ch < 4 := by rw [← hch]; split <;> omega
      have HTU : Hid (∀ W' G', InP W' B p G' → Calls Tryd.prog 15 #[.pointer (some ⟨B, 0, none⟩)] W' fun e W'' => e = .returned (.tuple #[.int .u8 (s : Int), .int .i64 0]) ∧ Below W'.heap.size W' W'') := Lib.hid fun W' G' h => by
        have := in_turn h
        have e : p.turnV = (s, 0) := by unfold Ply.turnV; rw [ho, hs]; rfl
        rw [e] at this; exact this
      have HTK : Hid (∀ W' G', InP W' B p G' → Calls Tryd.prog 24 #[.pointer (some ⟨B, 0, none⟩)] W' fun e W'' => ∃ v, e = .returned (.tuple #[.int .u8 (ld : Int), v]) ∧ OwnU W'' W'.heap.size v cu ∧ Below W'.heap.size W' W'') := Lib.hid fun W' G' h => by
        have := in_Trick h
        have e1 : p.st.trLd = ld := by unfold PSt.trLd; rw [ho, HLD.out]; rfl
        have e2 : p.st.trCs = cu := by unfold PSt.trCs; rw [ho, HCU.out]; rfl
        rw [e1, e2] at this; exact this
      have HCH : Hid (∀ W' G', InP W' B p G' → Calls Tryd.prog 28 #[.pointer (some ⟨B, 0, none⟩)] W' fun e W'' => e = .returned (.tuple #[.int .u8 (ch : Int), .int .i64 0]) ∧ Below W'.heap.size W' W'') := Lib.hid fun W' G' h => by
        have := in_chooser h
        have e : p.chooserV = (ch, 0) := by
          rw [chooser_go ho, hs]; unfold Ply.dummy; rw [HDC.out, hD, hch]
        rw [e] at this; exact this
      have HLG : Hid (∀ W' G', InP W' B p G' → Calls Tryd.prog 14 #[.pointer (some ⟨B, 0, none⟩)] W' fun e W'' => e = .returned (.int .u64 (L : Int)) ∧ Below W'.heap.size W' W'') := Lib.hid fun W' G' h => by
        have := in_legal h; rw [hL] at this; exact this
      obtain ⟨Hs, hHs⟩ : ∃ Hs, p.st.h s = Hs := ⟨_, rfl⟩
      have hH64 : W64 Hs := by rw [← hHs]; exact HPI.out.ok.st.h s
      have hsub : landn L Hs = 0 := by rw [← hL, ← hHs, ← hs]; exact en_sub HPI.out HD.out
      have HHA : Hid (∀ W' G', InP W' B p G' → Calls Tryd.prog 22 #[.pointer (some ⟨B, 0, none⟩), .int .u8 (s : Int)] W' fun e W'' => e = .returned (.int .u64 (Hs : Int)) ∧ W' = W'') := Lib.hid fun W' G' h => by
        have := in_hand h s (by omega)
        have e : p.handV s = Hs := by unfold Ply.handV; rw [if_pos (by omega), hHs]
        rw [e] at this; exact this
      have HRS : Hid (∀ W' G', InP W' B p G' → Calls Tryd.prog 19 #[.pointer (some ⟨B, 0, none⟩)] W' fun e W'' => e = .returned (.tuple #[.int .i64 0, .int .i64 123]) ∧ Below W'.heap.size W' W'') := Lib.hid fun W' G' h => by
        have := in_result h
        have e : p.resV = (0, 123) := by unfold Ply.resV; rw [ho]; rfl
        rw [e] at this; exact this
      have hsI : ((ld : Int) + (i : Int) % 4) % 4 = (s : Int) := by omega
      have HSS := Lib.hid hs
      have HLL := Lib.hid hL
      have HHH := Lib.hid hHs
      have HCC := Lib.hid hch
      have HOV := Lib.hid ho
      clear hs hsv hL hD hHs hch hov ho hm4
      have hm3 : wr.cell? ⟨N + 1, 3, none⟩ = some (.int .u8 (x.dc : Int)) := (HR1.out.below hNl HB.out).cell 3
      go_wp2_with fail
      go_at_call 15
      refine (HTU.out _ _ H).mono ?_
      rintro e W2 ⟨rfl, hb2⟩
      dsimp only
      have H2 := H.below hb2
      go_wp2_with fail
      go_at_call 24
      refine (HTK.out _ _ H2).mono ?_
      rintro e W3 ⟨v, rfl, how, hb3⟩
      dsimp only
      obtain ⟨av, cv, rfl, _, _, _, _, hbt⟩ := how.byt (by have := HTL.out; omega) (fun j => by have := getD52 HT52.out j; omega)
      rw [HTL.out] at hbt ⊢
      have H3 := H2.below hb3
      go_wp2_with fail
      go_at_call 28
      refine (HCH.out _ _ H3).mono ?_
      rintro e W4 ⟨rfl, hb4⟩
      dsimp only
      have H4 := H3.below hb4
      have hbt4 := hbt.below (Nat.le_refl _) hb4
      have hb24 := (hb2.trans (hb3.mono hb2.size)).trans (hb4.mono (Nat.le_trans hb2.size hb3.size))
      have ho24 := HO2.out.below hb24
      have hm34 := (hb24.cell (p := ⟨N + 1, 3, none⟩) (block_lt_of_cell hm3)).trans hm3
      clear how hbt hm3 hb2 hb3 hb4 H2 H3
      obtain ⟨ac, cc, hvc, _, _, _, _, hbc⟩ := OwnU.byt ho24 (by have := HTL.out; omega) (fun j => by have := getD52 HT52.out j; omega)
      rw [HTL.out] at hbc hvc
      subst hvc
      have HH4 := Lib.hid H4
      have HB24 := Lib.hid hb24
      clear hb24 ho24 H4
      go_upto_region 17 with fail
      obtain ⟨dm, hdE⟩ : ∃ dm, ((s : Int) == (D : Int)) = dm := ⟨_, rfl⟩
      rw [hdE]
      go_cut [25, 142] from 88 to 141 (fun _ v w' => v = .bool false ∧ Below W4.heap.size W4 w')
      case first =>
        have hsme := fun (W' : World) (hb : Below W4.heap.size W4 W') => same_true av ac m cv cc cu W' (hbt4.below (Nat.le_refl _) hb) (hbc.below (Nat.le_refl _) hb)
        have HSM := Lib.hid hsme
        have hr0 := Below.refl W4.heap.size W4
        clear hsme hbt4 hbc
        have hLz : ((L : Int) == 0) = false := by rw [beq_eq_false_iff_ne]; omega
        by_cases hsD : s = D
        · have hdt : dm = true := by rw [← hdE, beq_iff_eq]; omega
          subst hdt
          have q2 : (s == D) = true := beq_iff_eq.2 hsD
          have q3 := decide_eq_true hsD
          have hcx : ch = x.dc := by rw [← HCC.out, if_pos hsD]
          have q4 : ((ch : Int) == (s : Int)) = false := by rw [beq_eq_false_iff_ne]; omega
          have q5 : (ch == s) = false := beq_eq_false_iff_ne.2 (by omega)
          have q6 : ((ch : Int) != (x.dc : Int)) = false := by rw [bne_eq_false_iff_eq]; omega
          have q7 : (ch != x.dc) = false := bne_eq_false_iff_eq.2 hcx
          have q8 : decide (ch = s) = false := decide_eq_false (by omega)
          have q9 : decide (ch = x.dc) = true := decide_eq_true hcx
          clear hsD hcx hDne
          go_wp2_with fail
          go_at_call 29
          refine (HSM.out _ hr0).mono ?_
          rintro e W5 ⟨rfl, hb5⟩
          dsimp only
          have hm35 := (hb5.cell (p := ⟨N + 1, 3, none⟩) (block_lt_of_cell hm34)).trans hm34
          go_wp2_with fail
          go_at_call 14
          refine (HLG.out _ _ (HH4.out.below hb5)).mono ?_
          rintro e W6 ⟨rfl, hb6⟩
          dsimp only
          have hb46 := hb5.trans (hb6.mono hb5.size)
          go_wp2_with fail
          go_at_call 14
          refine (HLG.out _ _ (HH4.out.below hb46)).mono ?_
          rintro e W7 ⟨rfl, hb7⟩
          dsimp only
          have hb47 := hb46.trans (hb7.mono hb46.size)
          go_wp2_with fail
          go_at_call 22
          refine (HHA.out _ _ (HH4.out.below hb47)).mono ?_
          rintro e W8 ⟨rfl, rfl⟩
          dsimp only
          go_wp2_with fail
          go_meet
          case rel => exact ⟨rfl, hb47⟩
        · have hdt : dm = false := by rw [← hdE, beq_eq_false_iff_ne]; omega
          subst hdt
          have q2 : (s == D) = false := beq_eq_false_iff_ne.2 hsD
          have q3 := decide_eq_false hsD
          have hcx : ch = s := by rw [← HCC.out, if_neg hsD]
          have q4 : ((ch : Int) == (s : Int)) = true := by rw [beq_iff_eq]; omega
          have q5 : (ch == s) = true := beq_iff_eq.2 hcx
          have q8 : decide (ch = s) = true := decide_eq_true hcx
          clear hsD hcx hDne
          go_wp2_with fail
          go_at_call 29
          refine (HSM.out _ hr0).mono ?_
          rintro e W5 ⟨rfl, hb5⟩
          dsimp only
          have hm35 := (hb5.cell (p := ⟨N + 1, 3, none⟩) (block_lt_of_cell hm34)).trans hm34
          go_wp2_with fail
          go_at_call 14
          refine (HLG.out _ _ (HH4.out.below hb5)).mono ?_
          rintro e W6 ⟨rfl, hb6⟩
          dsimp only
          have hb46 := hb5.trans (hb6.mono hb5.size)
          go_wp2_with fail
          go_at_call 14
          refine (HLG.out _ _ (HH4.out.below hb46)).mono ?_
          rintro e W7 ⟨rfl, hb7⟩
          dsimp only
          have hb47 := hb46.trans (hb7.mono hb46.size)
          go_wp2_with fail
          go_at_call 22
          refine (HHA.out _ _ (HH4.out.below hb47)).mono ?_
          rintro e W8 ⟨rfl, rfl⟩
          dsimp only
          go_wp2_with fail
          go_meet
          case rel => exact ⟨rfl, hb47⟩
      case rest =>
        obtain ⟨rfl, hbw⟩ := hcut
        clear hbt4 hbc
        have hbA := (HB3.out.trans (HB.out.mono hwl)).trans ((HB24.out.trans (hbw.mono HB24.out.size)).mono (Nat.le_trans hwl HB.out.size))
        have Hc := HH4.out.below hbw
        have hkA : Kept G wr wc := Kept.of_below (HB24.out.trans (hbw.mono HB24.out.size))
        obtain ⟨k, hk⟩ : ∃ k, choV zs2 i = k := ⟨_, rfl⟩
        have hk256 : k < 256 := by rw [← hk]; exact choV_lt hz2 i
        obtain ⟨c, hc⟩ : ∃ c, pickV L k = c := ⟨_, rfl⟩
        have hps := pickV_spec hL64 hL1 k
        rw [hc] at hps
        obtain ⟨hc64, hcb⟩ := hps
        have HCO := Lib.hid (fun (W' : World) (hb : Below w.heap.size w W') => law12_chosenV a2 len2 cap2 zs2 i W' (hz2.below (Nat.le_refl _) hb) (by omega))
        rw [hk] at HCO
        have HCD := Lib.hid (fun (W' : World) (hT : Tab W') => law12_cardV L k hL64 hL1 hk256 W' hT)
        rw [hc] at HCD
        have hcB : p.st.legal.testBit c = true := by rw [HLL.out]; exact hcb
        have hdv : p.doV c = (0, ({ p with back := [] } : Ply).put c) := (HPI.out.do HD.out hcB).1
        have hpd := HPI.out.do HD.out hcB
        have HPD := Lib.hid hpd
        have hc52 : c < 52 := HPI.out.legal_52 HD.out hcB
        have hdb : (x.d s).testBit c = true := by rw [← HSS.out]; exact HPI.out.bit _ _ (HPI.out.legal_sub HD.out hcB)
        have hnw := en_new HPI.out HD.out hcB
        have HCB := Lib.hid hcB
        have HDO : Hid (∀ W' G', InP W' B p G' → Calls Tryd.prog 18 #[.pointer (some ⟨B, 0, none⟩), .int .u8 (c : Int)] W' fun e W'' => e = .returned (.int .i64 0) ∧ InP W'' B (({ p with back := [] } : Ply).put c) G' ∧ Kept G' W' W'') := Lib.hid fun W' G' h => by
          have := in_do h c (by omega) (by rw [hdv]; exact hpd.2.ok)
          rw [hdv] at this; exact this
        have HH2 : Hid (∀ W' G', InP W' B (({ p with back := [] } : Ply).put c) G' → Calls Tryd.prog 22 #[.pointer (some ⟨B, 0, none⟩), .int .u8 (s : Int)] W' fun e W'' => e = .returned (.int .u64 ((landn Hs (shl1 c) : Nat) : Int)) ∧ W' = W'') := Lib.hid fun W' G' h => by
          have := in_hand h s (by omega)
          rw [← HSS.out, en_hand p c, HSS.out, HHH.out] at this; exact this
        obtain ⟨p2, hp2⟩ : ∃ p2, ({ p with back := [] } : Ply).put c = p2 := ⟨_, rfl⟩
        have HEP := Lib.hid (en_put HPI.out HD.out hcB)
        have HST : Hid (p2.steps.map Stp.c = cs ++ [c] ∧ p2.steps.length = i + 1 ∧ p2.dc = x.dc ∧ p2.dn = x.dn) := Lib.hid (by
          rw [← hp2]
          refine ⟨?_, ?_, HDC.out, HDN.out⟩
          · show (p.steps ++ [_]).map _ = _
            rw [List.map_append, HCS.out]; rfl
          · show (p.steps ++ [_]).length = _
            rw [List.length_append, HI.out]; rfl)
        rw [hp2] at HDO HH2 HPD HEP
        obtain ⟨wi, hwi⟩ : ∃ wi, (Stp.tk ⟨p.st, c⟩ p.dn).win = wi := ⟨_, rfl⟩
        have HLT : Hid (lastTk p2.tks = Stp.tk ⟨p.st, c⟩ x.dn → (lastTk p2.tks).ld = ld ∧ [(lastTk p2.tks).c0, (lastTk p2.tks).c1, (lastTk p2.tks).c2, (lastTk p2.tks).c3] = [p.st.cs 0, p.st.cs 1, p.st.cs 2, c]) := Lib.hid fun e => by
          rw [e]; exact ⟨HLD.out, rfl⟩
        rw [HMM.out, HCU.out, HLD.out, hwi, HDN.out] at HEP
        rw [HMM.out] at HPD
        rw [HDN.out] at hwi
        obtain ⟨T0, hT0⟩ : ∃ T0, tkWon p.tks 0 = T0 := ⟨_, rfl⟩
        obtain ⟨T1, hT1⟩ : ∃ T1, tkWon p.tks 1 = T1 := ⟨_, rfl⟩
        have hTS : T0 + T1 = t := by rw [← hT0, ← hT1, tkWon_sum, HPI.out.tks_len]
        have htl := HPI.out.t_le
        have HT0 := Lib.hid hT0
        have HT1 := Lib.hid hT1
        have HWI := Lib.hid hwi
        rw [hT0, hT1] at HRW
        clear hcB hdv hpd hk hc hcb hp2 hT0 hT1 hwi
        go_wp2_with fail
        go_at_call 19
        refine (HRS.out _ _ Hc).mono ?_
        rintro e W5 ⟨rfl, hb5⟩
        dsimp only
        have hbA5 := hbA.trans (hb5.mono hbA.size)
        have Hc5 := Hc.below hb5
        have hk5 := hkA.trans (Kept.of_below hb5)
        go_upto_region 22 with fail
        go_wp2_with fail
        go_at_call 14
        refine (HLG.out _ _ Hc5).mono ?_
        rintro e W6 ⟨rfl, hb6⟩
        dsimp only
        have hbA6 := hbA5.trans (hb6.mono hbA5.size)
        have Hc6 := Hc5.below hb6
        have hk6 := hk5.trans (Kept.of_below hb6)
        clear hbA hbA5 Hc Hc5 hkA hk5 hb5 hb6 hbw
        go_wp2_with fail
        go_at_call 17
        refine (HCO.out _ hbA6).mono ?_
        rintro e W7 ⟨rfl, rfl⟩
        dsimp only
        go_wp2_with fail
        go_at_call 16
        refine (HCD.out _ Hc6.tab).mono ?_
        rintro e W7 ⟨rfl, rfl⟩
        dsimp only
        go_wp2_with fail
        go_at_call 22
        refine (HHA.out _ _ Hc6).mono ?_
        rintro e W7 ⟨rfl, rfl⟩
        dsimp only
        clear HCO HCD HRS HLG HHA HCH HTK HTU
        go_upto_region 24 with fail
        obtain ⟨a1, c1, hv1, _⟩ := OwnU.byt HO1.out (by have := HCL.out; omega) (fun j => by have := getD52 HC52.out j; omega)
        rw [HCL.out] at hv1
        subst hv1
        have hds64 := made_w64 x s
        have hs1 := W64.shl1 c
        have hnw2 := hnw
        rw [HCS.out] at hnw2
        go_wp2_with fail
        go_at_call 18
        refine (HDO.out _ _ Hc6).mono ?_
        rintro e W7 ⟨rfl, H7, hk7⟩
        dsimp only
        have hk67 := hk6.trans hk7
        have R7 := (HR0.out.below HR0.out.lt HB.out).kept (HGW.out N (.inl (by omega))) hk67
        have hds := (R7.cell s).trans (arr4_get x.d s hs4)
        have hO7 := HO1.out.keptS (fun g e => (HG1.out g e).1) hk67
        have hBy7 := own_byt hO7 (by have := HCL.out; omega) HC52.out
        have hctn := slices_contains a1 i c1 c cs W7 hBy7
        rw [hnw2] at hctn
        clear hnw hnw2 R7 hBy7
        go_wp2_with fail
        go_at_call 22
        refine (HH2.out _ _ H7).mono ?_
        rintro e W8 ⟨rfl, rfl⟩
        dsimp only
        go_wp2_with fail
        go_at_call 30
        refine hctn.mono ?_
        rintro e W8 ⟨rfl, rfl⟩
        dsimp only
        go_upto_region 26 with fail
        have hO27 := HO2.out.keptS HG2.out hk67
        have hW7 : W1.heap.size ≤ W7.heap.size := Nat.le_trans hWs hk67.size
        have htab := hT.pos
        go_wp2_with (at_builtin; refine appU rfl (.tmp 187) (.tmp 189) rfl W1.heap.size (.slice a1 i c1) cs [c] rfl (Owns.alloc hO7 _) ⟨W7.heap.size, 0, none⟩ 1 1 rfl (byt_new1 W7 c (by omega)) (by rw [HCL.out]; omega) (by rw [World.size_alloc]; omega) ?_; intro v1 w8 ho18 hB8 gr8 or8)
        dsimp only
        simp only [Act.put, List.setIfInBounds_toArray, List.set_cons_succ, List.set_cons_zero]
        have hW8 : W1.heap.size ≤ w8.heap.size := app_size hW7 gr8
        have hO28 := two_own HG1.out hO27 gr8
        go_wp2_with (at_builtin; refine appU rfl (.tmp 191) (.tmp 193) rfl W1.heap.size (.slice ac m cc) cu [c] rfl (Owns.alloc hO28 _) ⟨w8.heap.size, 0, none⟩ 1 1 rfl (byt_new1 w8 c (by omega)) (by rw [HTL.out]; omega) (by rw [World.size_alloc]; omega) ?_; intro v2 w9 ho29 hB9 gr9 or9)
        dsimp only
        simp only [Act.put, List.setIfInBounds_toArray, List.set_cons_succ, List.set_cons_zero]
        obtain ⟨G2, H9, hg1, hg2, hgG, ho19, hk79⟩ := two_in H7 HG1.out HG2.out (by have := HV.out; omega) hO7 hO27 gr8 or8 ho18 gr9 or9 ho29
        have hkk : Kept (fun b => b < w3.heap.size) wr w9 := (hk67.mono (fun b hb => HGW.out b (.inl hb))).trans (hk79.mono (fun b hb => by have := HV.out; omega))
        have hB9' := HB.out.trans (⟨hkk.os, hkk.tape, hkk.output, hkk.size, fun b hb => hkk.block b hb (Nat.lt_of_lt_of_le hb HB.out.size)⟩ : Below w3.heap.size wr w9)
        have RV := (HRW.out.kept (HGW.out V (.inr rfl)) hk67).kept (by have := HV.out; omega) hk79
        have hW9 : W1.heap.size ≤ w9.heap.size := Nat.le_trans hW7 hk79.size
        have hcl2 : (cu ++ [c]).length = m + 1 := by rw [List.length_append, HTL.out]; rfl
        have hcu52 : ∀ y ∈ cu ++ [c], y < 52 := fun y hy => by
          rcases List.mem_append.1 hy with h | h
          · exact HT52.out y h
          · rw [List.mem_singleton.1 h]; exact hc52
        obtain ⟨ad, cd, rfl, _⟩ := OwnU.byt ho29 (by omega) (fun j => by have := getD52 hcu52 j; omega)
        rw [hcl2] at ho29 hg1 hg2 or9 ⊢
        clear hB8 hB9 gr8 gr9 or8 or9 ho18 hO7 hO27 hkk hk79 hk67 hk7 hk6 HDO HH2 Hc6 H7 hbA6 hctn hds
        have HRV := Lib.hid RV
        have HB9 := Lib.hid hB9'
        have HO9 := Lib.hid ho29
        have HO19 := Lib.hid ho19
        have HG9 := Lib.hid (And.intro hg1 (And.intro hg2 hgG))
        clear RV hB9' ho29 ho19 hg1 hg2 hgG
        by_cases hm3 : m = 3
        · subst hm3
          rw [show 3 + 1 = 4 from rfl] at HO9 HG9 ⊢
          have hlen4 : (cu ++ [c]).length = 4 := hcl2
          obtain ⟨e1, etr, e2, e3, e4, e5⟩ := HEP.out.1 rfl
          have hl2 := HLT.out e5
          rw [← etr] at hl2
          have hlast := in_last H9 (by rw [HST.out.2.1]; have := HMA.out; omega)
          rw [hl2.1, hl2.2] at hlast
          have HLA := Lib.hid hlast
          have hse := fun (W' : World) (hb : Below w9.heap.size w9 W') => trick_Seat x.dn ld ad 4 cd (cu ++ [c]) W' ((own_byt HO9.out (by omega) hcu52).below (Nat.le_refl _) hb)
          rw [e4] at hse
          have HSE := Lib.hid hse
          have hwi4 : wi < 4 := by rw [← e3]; exact HPD.out.2.ok.st.ld
          have HK0 : Hid (tkWon p2.tks 0 = T0 + (if wi % 2 = 0 then 1 else 0)) := Lib.hid (by rw [e2, tkWon_snoc, HT0.out, HWI.out])
          have HK1 : Hid (tkWon p2.tks 1 = T1 + (if wi % 2 = 1 then 1 else 0)) := Lib.hid (by rw [e2, tkWon_snoc, HT1.out, HWI.out])
          have HE1 := Lib.hid e1
          have HE3 := Lib.hid e3
          have hT13 : T0 ≤ 13 ∧ T1 ≤ 13 := by omega
          clear hlast hl2 hse e1 etr e2 e3 e4 e5
          have q0 := HRV.out.cell 0
          have q1 := HRV.out.cell 1
          have qd := (HR1.out.below HR1.out.lt HB9.out).cell 1
          simp only [List.getElem?_toArray, List.getElem?_cons_zero, List.getElem?_cons_succ] at q0 q1 qd
          go_wp2_with fail
          go_at_call 31
          refine HLA.out.mono ?_
          rintro e W10 ⟨vl, rfl, hol, hb10⟩
          dsimp only
          obtain ⟨al, cl, rfl, _⟩ := OwnU.byt hol (by omega) (fun j => by have := getD52 hcu52 j; omega)
          rw [hlen4] at hol ⊢
          go_wp2_with fail
          go_at_call 29
          refine (same_true al ad 4 cl cd (cu ++ [c]) W10 (own_byt hol (by omega) hcu52) ((own_byt HO9.out (by omega) hcu52).below (Nat.le_refl _) hb10)).mono ?_
          rintro e W11 ⟨rfl, hb11⟩
          dsimp only
          have hb911 := hb10.trans (hb11.mono hb10.size)
          have qd11 := (hb911.cell (p := ⟨N + 1, 1, none⟩) (block_lt_of_cell qd)).trans qd
          go_wp2_with fail
          go_at_call 32
          refine (HSE.out _ hb911).mono ?_
          rintro e W12 ⟨rfl, hb12⟩
          dsimp only
          have hb912 := hb911.trans (hb12.mono hb911.size)
          have RV12 := HRV.out.below HRV.out.lt hb912
          have H12 := H9.below hb912
          have hO12 := HO19.out.below hb912
          have r0 := (hb912.cell (p := ⟨V, 0, none⟩) (block_lt_of_cell q0)).trans q0
          have r1 := (hb912.cell (p := ⟨V, 1, none⟩) (block_lt_of_cell q1)).trans q1
          have f0 := RV12.frozen 0
          have f1 := RV12.frozen 1
          have hB12 := HB9.out.trans (hb912.mono HB9.out.size)
          have hW12 := Nat.le_trans hW9 hb912.size
          clear q0 q1 qd qd11 hb911 hb12 hb11 hb10 hol
          rcases (show wi % 2 = 0 ∨ wi % 2 = 1 by omega) with hw | hw
          · have hwI : (wi : Int) % 2 = 0 := by omega
            go_upto_region 36 with fail
            have k0 : tkWon p2.tks 0 = T0 + 1 := by rw [HK0.out, if_pos hw]
            have k1 : tkWon p2.tks 1 = T1 := by rw [HK1.out, if_neg (by omega)]; rfl
            have hks := (Kept.refl (fun b => b ≠ V) W12).setCell (p := ⟨V, 0, none⟩) (fun h => h rfl) (.int .i64 ((T0 : Int) + 1))
            have Hs := H12.other hks (fun b _ => if h : b = V then .inr (h ▸ HG9.out.2.2 V (HGW.out V (.inr rfl))) else .inl h) (by have := HV.out; have := hT.pos; omega)
            have RVs : Row (W12.setCell ⟨V, 0, none⟩ (.int .i64 ((T0 : Int) + 1))) V 58 #[.int .i64 ((T0 : Int) + 1), .int .i64 (T1 : Int)] := RV12.set 0 (.int .i64 ((T0 : Int) + 1))
            have hOs := hO12.keptS (S := fun b => b ≠ V) (fun g e => by have h1 := (hO12.row e).1; have h2 := HV.out; omega) hks
            have hBs := hB12.trans (⟨hks.os, hks.tape, hks.output, hks.size, fun b hb => hks.block b (by have h2 := HV.out; omega) (Nat.lt_of_lt_of_le hb hB12.size)⟩ : Below w3.heap.size W12 _)
            have hWs2 := Nat.le_trans hW12 hks.size
            clear hks
            generalize W12.setCell ⟨V, 0, none⟩ (.int .i64 ((T0 : Int) + 1)) = W13 at Hs RVs hOs hBs hWs2 ⊢
            have htk := in_tricks Hs
            rw [k0, k1, show ((T0 + 1 : Nat) : Int) = (T0 : Int) + 1 from by push_cast; rfl] at htk
            have HTQ := Lib.hid htk
            clear htk r0 r1 f0 f1
            have q0 := RVs.cell 0
            have q1 := RVs.cell 1
            simp only [List.getElem?_toArray, List.getElem?_cons_zero, List.getElem?_cons_succ] at q0 q1
            go_wp2_with fail
            go_at_call 33
            refine HTQ.out.mono ?_
            rintro e W14 ⟨rfl, hb14⟩
            dsimp only
            have r0 := (hb14.cell (p := ⟨V, 0, none⟩) (block_lt_of_cell q0)).trans q0
            have r1 := (hb14.cell (p := ⟨V, 1, none⟩) (block_lt_of_cell q1)).trans q1
            go_wp2_with fail
            go_roundw
            case rel => exact ⟨p2, t + 1, _, by rw [HST.out.2.1]; go_num, by rw [HE3.out], Hs.below hb14, by have := HPD.out.2; rwa [if_pos rfl] at this, HST.out.2.2.1, HST.out.2.2.2, by rw [HST.out.1]; exact hOs.below hb14, by rw [HE1.out]; exact Owns.nil encU_len _ _, (fun g e => ⟨.inl (HG9.out.1 g e).1, by simp [Value.ownBlock]⟩), (fun g e => by simp [Value.ownBlock] at e), (fun g hg => .inl (HG9.out.2.2 g (HGW.out g hg))), by rw [k0, k1, show ((T0 + 1 : Nat) : Int) = (T0 : Int) + 1 from by push_cast; rfl]; exact RVs.below RVs.lt hb14, hBs.trans (hb14.mono hBs.size), Nat.le_trans hWs2 hb14.size⟩
            case measure => simp [intOf]; omega
          · have hwI : (wi : Int) % 2 = 1 := by omega
            go_upto_region 36 with fail
            have k0 : tkWon p2.tks 0 = T0 := by rw [HK0.out, if_neg (by omega)]; rfl
            have k1 : tkWon p2.tks 1 = T1 + 1 := by rw [HK1.out, if_pos hw]
            have hks := (Kept.refl (fun b => b ≠ V) W12).setCell (p := ⟨V, 1, none⟩) (fun h => h rfl) (.int .i64 ((T1 : Int) + 1))
            have Hs := H12.other hks (fun b _ => if h : b = V then .inr (h ▸ HG9.out.2.2 V (HGW.out V (.inr rfl))) else .inl h) (by have := HV.out; have := hT.pos; omega)
            have RVs : Row (W12.setCell ⟨V, 1, none⟩ (.int .i64 ((T1 : Int) + 1))) V 58 #[.int .i64 (T0 : Int), .int .i64 ((T1 : Int) + 1)] := RV12.set 1 (.int .i64 ((T1 : Int) + 1))
            have hOs := hO12.keptS (S := fun b => b ≠ V) (fun g e => by have h1 := (hO12.row e).1; have h2 := HV.out; omega) hks
            have hBs := hB12.trans (⟨hks.os, hks.tape, hks.output, hks.size, fun b hb => hks.block b (by have h2 := HV.out; omega) (Nat.lt_of_lt_of_le hb hB12.size)⟩ : Below w3.heap.size W12 _)
            have hWs2 := Nat.le_trans hW12 hks.size
            clear hks
            generalize W12.setCell ⟨V, 1, none⟩ (.int .i64 ((T1 : Int) + 1)) = W13 at Hs RVs hOs hBs hWs2 ⊢
            have htk := in_tricks Hs
            rw [k0, k1, show ((T1 + 1 : Nat) : Int) = (T1 : Int) + 1 from by push_cast; rfl] at htk
            have HTQ := Lib.hid htk
            clear htk r0 r1 f0 f1
            have q0 := RVs.cell 0
            have q1 := RVs.cell 1
            simp only [List.getElem?_toArray, List.getElem?_cons_zero, List.getElem?_cons_succ] at q0 q1
            go_wp2_with fail
            go_at_call 33
            refine HTQ.out.mono ?_
            rintro e W14 ⟨rfl, hb14⟩
            dsimp only
            have r0 := (hb14.cell (p := ⟨V, 0, none⟩) (block_lt_of_cell q0)).trans q0
            have r1 := (hb14.cell (p := ⟨V, 1, none⟩) (block_lt_of_cell q1)).trans q1
            go_wp2_with fail
            go_roundw
            case rel => exact ⟨p2, t + 1, _, by rw [HST.out.2.1]; go_num, by rw [HE3.out], Hs.below hb14, by have := HPD.out.2; rwa [if_pos rfl] at this, HST.out.2.2.1, HST.out.2.2.2, by rw [HST.out.1]; exact hOs.below hb14, by rw [HE1.out]; exact Owns.nil encU_len _ _, (fun g e => ⟨.inl (HG9.out.1 g e).1, by simp [Value.ownBlock]⟩), (fun g e => by simp [Value.ownBlock] at e), (fun g hg => .inl (HG9.out.2.2 g (HGW.out g hg))), by rw [k0, k1, show ((T1 + 1 : Nat) : Int) = (T1 : Int) + 1 from by push_cast; rfl]; exact RVs.below RVs.lt hb14, hBs.trans (hb14.mono hBs.size), Nat.le_trans hWs2 hb14.size⟩
            case measure => simp [intOf]; omega
        · have hx4 : (((m + 1 : Nat) : Int) == 4) = false := by rw [beq_eq_false_iff_ne]; omega
          obtain ⟨m1, hm1⟩ : ∃ m1, m + 1 = m1 := ⟨_, rfl⟩
          rw [hm1] at hx4 HG9 HO9 ⊢
          obtain ⟨e1, e2, e3⟩ := HEP.out.2 hm3
          have htk := in_tricks H9
          rw [e2, HT0.out, HT1.out] at htk
          have HTQ := Lib.hid htk
          clear htk
          have q0 := HRV.out.cell 0
          have q1 := HRV.out.cell 1
          simp only [List.getElem?_toArray, List.getElem?_cons_zero, List.getElem?_cons_succ] at q0 q1
          go_upto_region 36 with fail
          go_wp2_with fail
          go_at_call 33
          refine HTQ.out.mono ?_
          rintro e W10 ⟨rfl, hb10⟩
          dsimp only
          have r0 := (hb10.cell (p := ⟨V, 0, none⟩) (block_lt_of_cell q0)).trans q0
          have r1 := (hb10.cell (p := ⟨V, 1, none⟩) (block_lt_of_cell q1)).trans q1
          go_wp2_with fail
          go_roundw
          case rel => exact ⟨p2, t, G2, by rw [HST.out.2.1]; go_num, by rw [e3], H9.below hb10, by have := HPD.out.2; rwa [if_neg hm3] at this, HST.out.2.2.1, HST.out.2.2.2, by rw [HST.out.1]; exact HO19.out.below hb10, by rw [e1]; exact HO9.out.below hb10, HG9.out.1, HG9.out.2.1, (fun g hg => HG9.out.2.2 g (HGW.out g hg)), by rw [e2, HT0.out, HT1.out]; exact HRV.out.below HRV.out.lt hb10, HB9.out.trans (hb10.mono HB9.out.size), Nat.le_trans hW9 hb10.size⟩
          case measure => simp [intOf]; omega
    · have hie : i = 4 * n := by have := hov.1; omega
      have ho : p.st.over = true := by
        cases h : p.st.over
        · exact absurd (hov.2.2 h) hlt
        · rfl
      have hltI : ¬ ((i : Int) < 4 * (n : Int)) := by omega
      have hbA := HB3.out.trans (HB.out.mono hwl)
      obtain ⟨T0, hT0⟩ : ∃ T0, tkWon p.tks 0 = T0 := ⟨_, rfl⟩
      obtain ⟨T1, hT1⟩ : ∃ T1, tkWon p.tks 1 = T1 := ⟨_, rfl⟩
      have hTS : T0 + T1 = t := by rw [← hT0, ← hT1, tkWon_sum, HPI.out.tks_len]
      have htn : t = n := HPI.out.over_iff.1 ho
      rw [hT0, hT1] at HRW
      have hrv : p.resV = (if x.dc % 2 = 0 then T0 else T1, 0) := by
        unfold Ply.resV; rw [ho, HDC.out]
        rcases (show x.dc % 2 = 0 ∨ x.dc % 2 = 1 by omega) with h | h
        · rw [h, hT0]; rfl
        · rw [h, hT1]; rfl
      obtain ⟨rv, hrr⟩ : ∃ rv, (if x.dc % 2 = 0 then T0 else T1) = rv := ⟨_, rfl⟩
      rw [hrr] at hrv
      have HTU : Hid (∀ W' G', InP W' B p G' → Calls Tryd.prog 15 #[.pointer (some ⟨B, 0, none⟩)] W' fun e W'' => e = .returned (.tuple #[.int .u8 0, .int .i64 121]) ∧ Below W'.heap.size W' W'') := Lib.hid fun W' G' h => by
        have := in_turn h
        have e : p.turnV = (0, 121) := by unfold Ply.turnV; rw [ho]; rfl
        rw [e] at this; exact this
      have HRS : Hid (∀ W' G', InP W' B p G' → Calls Tryd.prog 19 #[.pointer (some ⟨B, 0, none⟩)] W' fun e W'' => e = .returned (.tuple #[.int .i64 (rv : Int), .int .i64 0]) ∧ Below W'.heap.size W' W'') := Lib.hid fun W' G' h => by
        have := in_result h
        rw [hrv] at this; exact this
      have HLG : Hid (∀ W' G', InP W' B p G' → Calls Tryd.prog 14 #[.pointer (some ⟨B, 0, none⟩)] W' fun e W'' => e = .returned (.int .u64 0) ∧ Below W'.heap.size W' W'') := Lib.hid fun W' G' h => by
        have := in_legal h; rw [(HPI.out.legal_zero HD.out).2 ho] at this; exact this
      have hdv : p.doV 0 = (121, p) := by unfold Ply.doV; rw [ho]; rfl
      have HDO : Hid (∀ W' G', InP W' B p G' → Calls Tryd.prog 18 #[.pointer (some ⟨B, 0, none⟩), .int .u8 0] W' fun e W'' => e = .returned (.int .i64 121) ∧ InP W'' B p G' ∧ Kept G' W' W'') := Lib.hid fun W' G' h => by
        have := in_do h 0 (by omega) (by rw [hdv]; exact HPI.out.ok)
        rw [hdv] at this; exact this
      have HCA : Hid (∀ W' G', InP W' B p G' → Calls Tryd.prog 20 #[.pointer (some ⟨B, 0, none⟩)] W' fun e W'' => ∃ v, e = .returned v ∧ OwnU W'' W'.heap.size v cs ∧ Below W'.heap.size W' W'') := Lib.hid fun W' G' h => by
        have := in_cards h; rw [HCS.out] at this; exact this
      obtain ⟨a1, c1, hv1, _⟩ := OwnU.byt HO1.out (by have := HCL.out; omega) (fun j => by have := getD52 HC52.out j; omega)
      rw [HCL.out] at hv1
      subst hv1
      have hsum : ((T0 : Int) + (T1 : Int) == (n : Int)) = true := by rw [beq_iff_eq]; omega
      have hT13 : T0 ≤ 13 ∧ T1 ≤ 13 := by omega
      have hi60 : i ≤ 52 := by omega
      clear hrv hdv hov ho hT0 hT1 hie hTS htn
      go_wp2_with fail
      go_at_call 15
      refine (HTU.out _ _ H).mono ?_
      rintro e W2 ⟨rfl, hb2⟩
      dsimp only
      have H2 := H.below hb2
      go_wp2_with fail
      go_at_call 19
      refine (HRS.out _ _ H2).mono ?_
      rintro e W3 ⟨rfl, hb3⟩
      dsimp only
      have H3 := H2.below hb3
      go_wp2_with fail
      go_at_call 14
      refine (HLG.out _ _ H3).mono ?_
      rintro e W4 ⟨rfl, hb4⟩
      dsimp only
      have H4 := H3.below hb4
      have hb24 := (hb2.trans (hb3.mono hb2.size)).trans (hb4.mono (Nat.le_trans hb2.size hb3.size))
      go_wp2_with fail
      go_at_call 18
      refine (HDO.out _ _ H4).mono ?_
      rintro e W5 ⟨rfl, H5, hk5⟩
      dsimp only
      have hkA := (Kept.of_below hb24 : Kept G wr W4).trans hk5
      have RV5 := HRW.out.kept (HGW.out V (.inr rfl)) hkA
      have RN5 := (HR1.out.below HR1.out.lt HB.out).kept (HGW.out (N + 1) (.inl HR1.out.lt)) hkA
      have hby := own_byt (HO1.out.keptS (fun g e => (HG1.out g e).1) hkA) (by have := HCL.out; omega) HC52.out
      have hk2 := hkA.mono (S' := fun b => b < w.heap.size) (fun b hb => HGW.out b (.inl (by omega)))
      have hBf := hbA.trans (⟨hk2.os, hk2.tape, hk2.output, hk2.size, fun b hb => hk2.block b hb (Nat.lt_of_lt_of_le hb hbA.size)⟩ : Below w.heap.size wr W5)
      have q0 := RV5.cell 0
      have q1 := RV5.cell 1
      have m3 := RN5.cell 3
      simp only [List.getElem?_toArray, List.getElem?_cons_zero, List.getElem?_cons_succ] at q0 q1 m3
      clear RV5 RN5 hkA hk2 hk5 hb24 H2 H3 H4 hb2 hb3 hb4 H
      have HCS5 := Lib.hid (fun W' v' c' (hb : Below W5.heap.size W5 W') (hy : Byt W' v' i cs) => same_true v' a1 i c' c1 cs W' hy (hby.below (Nat.le_refl _) hb))
      clear hby hbA
      rcases (show x.dc % 2 = 0 ∨ x.dc % 2 = 1 by omega) with hd | hd
      · have hdI : (x.dc : Int) % 2 = 0 := by omega
        have hre : T0 = rv := by rw [← hrr, if_pos hd]
        subst hre
        clear hrr
        go_wp2_with fail
        go_at_call 20
        refine (HCA.out _ _ H5).mono ?_
        rintro e W6 ⟨v6, rfl, ho6, hb6⟩
        dsimp only
        obtain ⟨a6, c6, rfl, _⟩ := OwnU.byt ho6 (by have := HCL.out; omega) (fun j => by have := getD52 HC52.out j; omega)
        rw [HCL.out] at ho6 ⊢
        go_wp2_with fail
        go_at_call 29
        refine (HCS5.out _ _ _ hb6 (own_byt ho6 (by have := HCL.out; omega) HC52.out)).mono ?_
        rintro e W7 ⟨rfl, hb7⟩
        dsimp only
        go_wp2_with fail
        go_ret
        exact ⟨rfl, (hBf.trans (hb6.mono hBf.size)).trans (hb7.mono (Nat.le_trans hBf.size hb6.size))⟩
      · have hdI : (x.dc : Int) % 2 = 1 := by omega
        have hre : T1 = rv := by rw [← hrr, if_neg (by omega)]
        subst hre
        clear hrr
        go_wp2_with fail
        go_at_call 20
        refine (HCA.out _ _ H5).mono ?_
        rintro e W6 ⟨v6, rfl, ho6, hb6⟩
        dsimp only
        obtain ⟨a6, c6, rfl, _⟩ := OwnU.byt ho6 (by have := HCL.out; omega) (fun j => by have := getD52 HC52.out j; omega)
        rw [HCL.out] at ho6 ⊢
        go_wp2_with fail
        go_at_call 29
        refine (HCS5.out _ _ _ hb6 (own_byt ho6 (by have := HCL.out; omega) HC52.out)).mono ?_
        rintro e W7 ⟨rfl, hb7⟩
        dsimp only
        go_wp2_with fail
        go_ret
        exact ⟨rfl, (hBf.trans (hb6.mono hBf.size)).trans (hb7.mono (Nat.le_trans hBf.size hb6.size))⟩
theorem law_PlayEnds (a : Option Addr) (len cap : Nat) (zs : List Nat) (n c : Nat) (a2 : Option Addr) (len2 cap2 : Nat) (zs2 : List Nat) (w : World) (hz : Byt w a len zs) (hn : n < 256) (hc : c < 256) (hz2 : Byt w a2 len2 zs2) (hT : Tab w) :
    Calls Tryd.prog 8 #[.slice a len cap, .int .u8 (n : Int), .int .u8 (c : Int), .slice a2 len2 cap2] w fun e w' => e = .returned (.bool true) ∧ Below w.heap.size w w' :=
  pe_all ⟨zs, n, c⟩ a len cap a2 len2 cap2 zs2 w hz hz2 hn hc hT
end Go.Proofs.YtginbellakkliaaDoor
