/- finesselaw12.PlayBack walked over this seat's program. -/
import Derived.Test.YtginbellakkliaaDoorMPyr
import Derived.Test.YtginbellakkliaaDoorPyO
import Derived.Test.YtginbellakkliaaDoorMSeg
import Derived.BigQuiet
import Derived.Deep.CutRange
import Derived.Deep.RegionWith
import Derived.Deep.RegionHeld3
namespace Go.Proofs.YtginbellakkliaaDoor
open Go.RowKit Go.Shelf Go.Sort
attribute [local go_sem] Oper.semAt_some

theorem kept_below {w W : World} (h : Kept (fun k => k < w.heap.size) w W) : Below w.heap.size w W := ⟨h.os, h.tape, h.output, h.size, fun k hk => h.block k hk hk⟩
theorem pt_len {d : Nat → Nat} {n t : Nat} {p : Ply} (h : PInv d n p t) (hd : Deal4 d n) : p.steps.length ≤ 52 ∧ (p.st.over = false → p.steps.length < 52) := by
  have h1 := h.many
  have h2 := h.t_le
  have h3 := hd.le
  have h4 := h.ok.st.ct
  have h5 := h.ct_over
  refine ⟨by omega, fun ho => ?_⟩
  have h6 : t ≠ n := fun e => by rw [h.over_iff.2 e] at ho; cases ho
  omega
theorem InP.regrown {W : World} {B : Nat} {p : Ply} {G : Nat → Prop} (h : InP W B p G) (d : Nat) (os : Array Obj) : InP (grow (redrawn W d) os) B p G := h.below (below_regrown W d os)
theorem OwnT.keptG {w w' : World} {base : Nat} {v : Value} {l : List Tld} {G : Nat → Prop} (h : OwnT w base v l) (hg : ∀ g, v.ownBlock = some g → G g) (hk : Kept G w w') : OwnT w' base v l := Owns.keptS h hg hk
theorem undo_put (p : Ply) (c : Nat) : (({ p with back := [] } : Ply).put c).undoV = (0, { p with back := [c] }) := by
  unfold Ply.undoV Ply.put
  simp
theorem redo_put (p : Ply) (c : Nat) : ({ p with back := [c] } : Ply).redoV = (0, ({ p with back := [] } : Ply).put c) := rfl
theorem bk_app {w8 w10 : World} {B base : Nat} {p : Ply} {G : Nat → Prop} {v v' : Value} {l l' : List Tld} (H : InP w8 B p G) (hO : OwnT w8 base v l) (hvG : ∀ g, v.ownBlock = some g → G g) (hO' : OwnT w10 base v' l')
    (hgr : w8.grownBy w10 v.ownBlock) (hloc : v'.ownBlock = v.ownBlock ∨ v'.ownBlock = some w8.heap.size) (ht : 0 < base) :
    ∃ G', InP w10 B p G' ∧ (∀ b, G b → G' b) ∧ (∀ g, v'.ownBlock = some g → G' g) := by
  have hk : Kept (fun b => some b ≠ v.ownBlock) w8 w10 := Kept.of_grown hgr (fun k hk => hk)
  refine ⟨_, H.other hk (fun b _ => ?_) (fun e => ?_), fun b hb => .inl hb, fun g hg => ?_⟩
  · by_cases h : some b = v.ownBlock
    · exact .inr (hvG b h.symm)
    · exact .inl h
  · have := (World.ownsRow.lt hO.2 _ e.symm).1; omega
  · rcases hloc with h | h
    · exact .inl (hvG g (h ▸ hg))
    · rw [h] at hg
      injection hg with hg
      subst hg
      exact .inr ⟨Nat.le_refl _, (World.ownsRow.lt hO'.2 _ h).2⟩
theorem below_keptG {w3 wE w' : World} {G : Nat → Prop} (h : Below w3.heap.size w3 wE) (hk : Kept G wE w') (hG : ∀ g, g < w3.heap.size → G g) : Below w3.heap.size w3 w' :=
  h.trans ⟨hk.os, hk.tape, hk.output, hk.size, fun c hc => hk.block c (hG c hc) (Nat.lt_of_lt_of_le hc h.size)⟩
theorem do_yes {p : Ply} {b : List Nat} {c : Nat} (ho : p.st.over = false) (h : c < 52 ∧ p.st.legal.testBit c = true) : ({ p with back := b } : Ply).doV c = (0, ({ p with back := [] } : Ply).put c) := by
  unfold Ply.doV
  rw [show ({ p with back := b } : Ply).st.over = false from ho, if_neg (by decide), if_pos h]
attribute [local irreducible] Mn.d Mn.lv Mn.dn Mn.rk Mn.dc
set_option maxHeartbeats 2000000 in
set_option maxRecDepth 100000 in
theorem pb_all (x : Mn) (a : Option Addr) (len cap bk0 : Nat) (a2 : Option Addr) (len2 cap2 : Nat) (zs2 : List Nat) (w : World) (hz : Byt w a len x.zs) (hz2 : Byt w a2 len2 zs2) (hn : x.n < 256) (hc : x.c < 256) (hbk0 : bk0 < 256) (hT : Tab w) :
    Calls Tryd.prog 7 #[.slice a len cap, .int .u8 (x.n : Int), .int .u8 (x.c : Int), .slice a2 len2 cap2, .int .u8 (bk0 : Int)] w fun e w' => e = .returned (.bool true) ∧ Below w.heap.size w w' := by
  have HA := Lib.hid (fun (w1 : World) (h : Below w.heap.size w w1) => law12_awake w1 (hT.below hT.pos h))
  have HM := Lib.hid (fun (w1 : World) (h : Below w.heap.size w w1) => law12_made x a len cap w1 (hz.below (Nat.le_refl _) h) hn hc)
  have HD := Lib.hid (made_deal4 x)
  have HNP : Hid (∀ w3, Below w.heap.size w w3 → Calls Tryd.prog 13 #[.agg #[.int .u64 (x.d 0 : Int), .int .u64 (x.d 1 : Int), .int .u64 (x.d 2 : Int), .int .u64 (x.d 3 : Int)], .agg #[.int .u8 (x.lv : Int), .int .u8 (x.dn : Int), .int .u8 (x.rk : Int), .int .u8 (x.dc : Int)]] w3 fun e W' =>
      ∃ B, e = .returned (.tuple #[.pointer (some ⟨B, 0, none⟩), .int .i64 0]) ∧ InP W' B (newP x.d x.lv x.dn x.rk x.dc) (fun g => g < w3.heap.size) ∧ Below w3.heap.size w3 W') :=
      Lib.hid (fun w3 hB3 => in_new x.d x.lv x.dn x.rk x.dc (made_w64 x) (made_new x) _ w3 (fun g hg => hg) (hT.below hT.pos hB3) (Nat.lt_of_lt_of_le hT.pos hB3.size))
  have HP0 := Lib.hid (PInv.new x)
  have HL0 : Hid ((newP x.d x.lv x.dn x.rk x.dc).steps.length = 0 ∧ (newP x.d x.lv x.dn x.rk x.dc).back = [] ∧ (newP x.d x.lv x.dn x.rk x.dc).wl = [(newP x.d x.lv x.dn x.rk x.dc).tld]) := Lib.hid ⟨rfl, rfl, rfl⟩
  have HH0 := Lib.hid (Hist.new x)
  generalize newP x.d x.lv x.dn x.rk x.dc = p0 at *
  go_enter Tryd.func7, Tryd.ntmps7
  go_upto_region 6 with (first
    | (go_at_call 11; refine (HA.out _ (Below.refl _ _)).mono ?_; rintro e w1 ⟨rfl, hb1⟩)
    | (go_at_call 12; refine (HM.out _ hb1).mono ?_; rintro e w3 ⟨rfl, hb2⟩; have hB3 := hb1.trans (hb2.mono hb1.size); clear hb2)
    | (go_at_call 13; refine (HNP.out _ hB3).mono ?_; rintro e W0 ⟨B, rfl, H0, hb4⟩))
  clear HNP HA HM hb1
  have HB3 := Lib.hid hB3
  have hwl : w.heap.size ≤ w3.heap.size := hB3.size
  have hB0 : Below w3.heap.size w3 W0 := hb4
  clear hb4 hB3
  have HLK : Hid (∀ (p : Ply) (W' : World) (G' : Nat → Prop), InP W' B p G' → Calls Tryd.prog 23 #[.pointer (some ⟨B, 0, none⟩)] W' fun e W'' => e = .returned (.agg p.tld.cells) ∧ Below W'.heap.size W' W'') := Lib.hid fun p W' G' h => law12_look h
  obtain ⟨T, hT0⟩ : ∃ T, p0.tld = T := ⟨_, rfl⟩
  have HLK0 := Lib.hid (HLK.out p0 W0 _ H0)
  rw [hT0] at HLK0
  rw [hT0] at HL0
  clear hT0
  go_upto_region 7 with (go_at_call 23; refine HLK0.out.mono ?_; rintro e W1 ⟨rfl, hb1⟩)
  have hB1 := hB0.trans (hb1.mono hB0.size)
  have hOW := ownT_one W1 w3.heap.size hB1.size T
  have H1 : InP (W1.alloc (.cells T.cells 51)) B p0 (fun g => g < w3.heap.size ∨ (W0.heap.size ≤ g ∧ g < (W1.alloc (.cells T.cells 51)).heap.size)) := H0.more (hb1.alloc hb1.size _) (fun g hg => hg) (.inl (Nat.lt_of_lt_of_le hT.pos hwl))
  have hB2 := hB1.alloc hB1.size (.cells T.cells 51)
  have hg1 : W0.heap.size ≤ W1.heap.size ∧ W1.heap.size < (W1.alloc (.cells T.cells 51)).heap.size := ⟨hb1.size, by rw [World.size_alloc]; omega⟩
  dsimp only [Tld.cells] at hOW H1 hB2 hg1
  generalize (W1.alloc (.cells #[.int .u8 (T.t : Int), .int .i64 (T.e : Int), .int .u64 (T.L : Int), .int .u64 (T.h 0 : Int), .int .u64 (T.h 1 : Int), .int .u64 (T.h 2 : Int), .int .u64 (T.h 3 : Int), .int .i64 (T.ns : Int), .int .i64 (T.ew : Int), .int .i64 (T.mn : Int)] 51)) = W2 at *
  generalize W1.heap.size = g1 at *
  clear H0 hb1 hB0 hB1 HLK0
  go_wp2_with fail
  go_loopw [13, 14] (fun v i wr => ∃ (P : Ply) (t : Nat) (G : Nat → Prop), i = .int .i64 (P.steps.length : Int) ∧ P.back = [] ∧ InP wr B P G ∧ PInv x.d x.each P t ∧ Hist x.d x.each P ∧ OwnT wr w3.heap.size v P.wl ∧ (∀ g, v.ownBlock = some g → G g) ∧ (∀ g, g < w3.heap.size → G g) ∧ Below w3.heap.size w3 wr) (fun _ i _ => 53 - (intOf i).toNat)
  case atStart => exact ⟨p0, 0, _, by rw [HL0.out.1]; rfl, HL0.out.2.1, H1, HP0.out, HH0.out, by rw [HL0.out.2.2]; exact hOW, (fun g e => .inr (by obtain rfl : g1 = g := (by simpa [Value.ownBlock] using e); exact hg1)), (fun g hg => .inl hg), hB2⟩
  case round =>
    obtain ⟨p, t, G, rfl, hbk, H, hp, hhi, how, hvG, hGw, hB⟩ := hrel
    clear H1 hOW hB2 hg1
    have hl := pt_len hp HD.out
    obtain ⟨i, hi⟩ : ∃ i, p.steps.length = i := ⟨_, rfl⟩
    rw [hi] at hl ⊢
    have hi52 := hl.1
    have HI := Lib.hid hi
    have HHI := Lib.hid hhi
    have HBK := Lib.hid hbk
    have HOW := Lib.hid how
    have HVG := Lib.hid hvG
    have HGW := Lib.hid hGw
    have HB := Lib.hid hB
    clear hhi hbk how hvG hGw hB
    cases ho : p.st.over
    · obtain ⟨L, hL⟩ : ∃ L, p.st.legal = L := ⟨_, rfl⟩
      have hL1 : L ≠ 0 := by rw [← hL]; exact hp.legal_ne HD.out ho
      have hL64 : W64 L := by rw [← hL]; exact hp.legal64 HD.out
      have hLb : ((L : Int) != 0) = true := by rw [bne_iff_ne]; omega
      have hlg := fun (W' : World) (G' : Nat → Prop) (h : InP W' B p G') => in_legal h
      rw [hL] at hlg
      have HLG := Lib.hid hlg
      have hi52' : i < 52 := hl.2 ho
      by_cases hil : i < len2
      · have HDO := Lib.hid (fun c (hc : L.testBit c = true) => (by rw [← hL] at hc; exact ⟨hp.do HD.out hc, HHI.out.put HD.out hp hc⟩ : (p.doV c = (0, ({ p with back := [] } : Ply).put c) ∧ PInv x.d x.each (({ p with back := [] } : Ply).put c) (if p.st.ct = 3 then t + 1 else t)) ∧ Hist x.d x.each (({ p with back := [] } : Ply).put c)))
        have hB6 : Below w.heap.size w wr := HB3.out.trans (HB.out.mono hwl)
        obtain ⟨b, off, rfl, hbl, hcells⟩ := (hz2.below (Nat.le_refl _) hB6).at (by omega)
        have hcz := hcells i hil
        have hz256 := hz2.byte i
        have hTr := hT.below hT.pos hB6
        have HTR := Lib.hid hTr
        have hge : decide (i < len2) = true := decide_eq_true hil
        have hilI : (i : Int) < (len2 : Int) := by omega
        have hdo : ∀ z W', Below wr.heap.size wr W' → Calls Tryd.prog 18 #[.pointer (some ⟨B, 0, none⟩), .int .u8 (pickV L z : Int)] W' fun e W'' => e = .returned (.int .i64 0) ∧ InP W'' B (({ p with back := [] } : Ply).put (pickV L z)) G ∧ Kept G W' W'' := by
          intro z W' hb
          obtain ⟨s1, s2⟩ := pickV_spec hL64 hL1 z
          obtain ⟨⟨e1, hp'⟩, _⟩ := HDO.out _ s2
          have := in_do (H.below hb) (pickV L z) (by omega) (by rw [e1]; exact hp'.ok)
          rw [e1] at this; exact this
        have HDO2 := Lib.hid hdo
        have HPK := Lib.hid (fun z => pickV_spec hL64 hL1 z)
        clear hcells hdo hTr hB6 hlg hL ho hp hl hi
        generalize zs2.getD i 0 = z at *
        go_upto_region 10 with (go_at_call 14; refine (HLG.out _ _ H).mono ?_; rintro e W3 ⟨rfl, hb3⟩)
        have H3 := H.below hb3
        have hc3 := (hb3.cell (p := ⟨b, off + i, none⟩) (block_lt_of_cell hcz)).trans hcz
        have rc3 := fun dd os => cell_regrown hc3 dd os
        have HT3 := Lib.hid (HTR.out.below HTR.out.pos hb3)
        refine wp_region_below_tail 8 (by kernel_rfl) (by kernel_rfl) ?_
        simp only [List.take_succ_cons, List.take_zero, List.drop_succ_cons, List.drop_zero]
        repeat (quiet_step (first | exact Calls.regrown_of (HLG.out _ _ (H3.regrown _ _)) | exact Calls.regrown_of ((law12_cardV L z hL64 hL1 hz256 _ (HT3.out.below HT3.out.pos (below_regrown _ _ _))).mono fun _ _ ⟨he, hw⟩ => ⟨he, hw ▸ Below.refl _ _⟩)))
        refine wpQuiet_nil ?_
        rintro _ ⟨q, rfl⟩
        have hb4 := hb3.trans ((below_regrown W3 q.d q.os).mono hb3.size)
        generalize grow (redrawn W3 q.d) q.os = w5 at *
        clear rc3 hc3 hcz
        have HPKz := Lib.hid (HPK.out z)
        have HD5 := Lib.hid (HDO2.out z w5 hb4)
        have HDz := Lib.hid (HDO.out (pickV L z) HPKz.out.2)
        have hpk64 := HPKz.out.1
        generalize pickV L z = c at *
        obtain ⟨T', hT'⟩ : ∃ T', (({ p with back := [] } : Ply).put c).tld = T' := ⟨_, rfl⟩
        have HTE := Lib.hid hT'
        have hlk := fun (W' : World) (h : InP W' B (({ p with back := [] } : Ply).put c) G) => HLK.out _ W' _ h
        rw [hT'] at hlk
        have HLK2 := Lib.hid hlk
        clear hlk hT'
        go_upto_region 12 with (go_at_call 18; refine HD5.out.mono ?_; rintro e W6 ⟨rfl, H6, hk6⟩)
        have hB6 : Below w3.heap.size w3 W6 := (HB.out.trans (hb4.mono HB.out.size)).trans ⟨hk6.os, hk6.tape, hk6.output, hk6.size, fun c hc => hk6.block c (HGW.out c hc) (by have := HB.out.size; have := hb4.size; omega)⟩
        have hO6 : OwnT W6 w3.heap.size u13 p.wl := OwnT.keptG (HOW.out.below hb4) HVG.out hk6
        have htab : 0 < w3.heap.size := Nat.lt_of_lt_of_le hT.pos hwl
        go_wp2_with (first
          | (go_at_call 23; refine (HLK2.out _ H6).mono ?_; rintro e W7 ⟨rfl, hb7⟩; have hO7 := hO6.below hb7; have hB7 := hB6.trans (hb7.mono hB6.size); have HB7 := Lib.hid hB7; have HO7 := Lib.hid hO7; clear hB7 hO7)
          | (at_builtin; refine appT rfl (.tmp 57) (.tmp 60) rfl w3.heap.size _ p.wl T' rfl (Owns.alloc HO7.out _) rfl (by rw [wl_len, HI.out]; omega) HB7.out.size ?_; intro v' w10 hO10 hgr hloc))
        have hO8 := Owns.alloc HO7.out (.cells T'.cells 51)
        have H8 : InP (W7.alloc (.cells T'.cells 51)) B (({ p with back := [] } : Ply).put c) G := (H6.below hb7).below ((Below.refl _ _).alloc (Nat.le_refl _) _)
        obtain ⟨G', H10, hGG, hvG'⟩ := bk_app H8 hO8 HVG.out hO10 hgr (by rw [World.size_alloc]; exact hloc) htab
        have hB10 : Below w3.heap.size w3 w10 := (HB7.out.alloc HB7.out.size _).grown hgr (Nat.le_trans HB7.out.size (by rw [World.size_alloc]; omega)) (fun k hk => (World.ownsRow.lt hO8.2 _ hk).1)
        go_roundw
        case rel => exact ⟨_, _, G', by show Value.int IntKind.i64 _ = Value.int IntKind.i64 ((p.steps ++ [_]).length : Int); rw [List.length_append, HI.out]; rfl, rfl, H10, HDz.out.1.2, HDz.out.2, by rw [wl_put, HTE.out]; exact hO10, hvG', fun g hg => hGG g (HGW.out g hg), hB10⟩
        case measure => simp [intOf]; omega
      · have hge : decide (i < len2) = false := decide_eq_false hil
        clear hlg hL ho hp hl hi
        have hwl1 := wl_len p
        rw [HI.out] at hwl1
        obtain ⟨av, cv, hv, hne⟩ := Owns.slice HOW.out
        obtain ⟨g, rfl⟩ := hne (by intro e; rw [e] at hwl1; simp at hwl1)
        rw [hwl1] at hv
        subst hv
        have hgG := HVG.out g rfl
        have hRD := in_redo H
        have hrv : p.redoV = (6, p) := by unfold Ply.redoV; rw [HBK.out]; rfl
        rw [hrv] at hRD
        have HRD := Lib.hid (fun (W' : World) (h : InP W' B p G) => (by have := in_redo h; rw [hrv] at this; exact this : Calls Tryd.prog 26 #[.pointer (some ⟨B, 0, none⟩)] W' fun e W'' => e = .returned (.int .i64 6) ∧ InP W'' B p G ∧ Kept G W' W''))
        clear hRD hrv hne hwl1
        obtain ⟨K, hK⟩ : ∃ K, bk0 % (i + 1) = K := ⟨_, rfl⟩
        have hKi : K ≤ i := by have := Nat.mod_lt bk0 (show 0 < i + 1 by omega); rw [hK] at this; omega
        have hKm : (bk0 : Int) % ((i : Int) + 1) = (K : Int) := by rw [← hK]; first | exact (Int.natCast_emod bk0 (i + 1)).symm | (push_cast; rfl) | rfl
        have hl1 : ((i : Int) + 1) - 1 = (i : Int) := by omega
        clear hK
        go_wp2_with (first
          | (go_at_call 14; refine (HLG.out _ _ H).mono ?_; rintro e W3 ⟨rfl, hb3⟩)
          | (go_at_call 26; refine (HRD.out _ (H.below hb3)).mono ?_; rintro e wE ⟨rfl, HE, hkE⟩))
        have hOE : OwnT wE w3.heap.size (.slice (some ⟨g, 0, none⟩) (i + 1) cv) p.wl := OwnT.keptG (HOW.out.below hb3) HVG.out hkE
        have hBE : Below w3.heap.size w3 wE := (HB.out.trans (hb3.mono HB.out.size)).trans ⟨hkE.os, hkE.tape, hkE.output, hkE.size, fun c hc => hkE.block c (HGW.out c hc) (by have := HB.out.size; have := hb3.size; omega)⟩
        have HOE := Lib.hid hOE
        have HBE := Lib.hid hBE
        have HEE : InP wE B (p.at (i - 0) (p.bk (i - 0))) G := by
          rw [Nat.sub_zero, ← HI.out, at_full, bk_full]
          have e : ({ p with back := [] } : Ply) = p := by rw [← HBK.out]
          rw [e]; exact HE
        clear hOE hBE hb3 hkE HE H HRD
        rw [hKm]
        clear hKm
        have hgE : G g := hgG
        go_loopw [74] (fun j wq => ∃ q : Nat, q ≤ K ∧ j = .int .i64 (q : Int) ∧ InP wq B (p.at (i - q) (p.bk (i - q))) G ∧ Kept G wE wq) (fun j _ => K - (intOf j).toNat)
        case atStart => exact ⟨0, by omega, rfl, HEE, Kept.refl _ _⟩
        case round =>
          obtain ⟨q, hq, rfl, H, HK⟩ := hrel
          by_cases hqK : q < K
          · obtain ⟨j, hj⟩ : ∃ j, i - q = j + 1 := ⟨i - q - 1, by omega⟩
            rw [hj] at H
            have hjl : j < p.steps.length := by rw [HI.out]; omega
            have hx := List.getElem?_eq_getElem hjl
            have hun := in_undo (H.below ((Below.refl _ _).drew)) (undoV_ok H.ok)
            rw [at_undo p hx, ← bk_succ p hx] at hun
            obtain ⟨T2, hT2⟩ : ∃ T2, (p.at j []).tld = T2 := ⟨_, rfl⟩
            have hlk := fun (W' : World) (h : InP W' B (p.at j (p.bk j)) G) => HLK.out _ W' _ h
            rw [tld_at, hT2] at hlk
            have hwlj := wl_get p (i := j) (by omega)
            rw [hT2] at hwlj
            have HWC := Lib.hid (fun (W' : World) (hk : Kept G wE W') (cc : Nat) (hc : cc < 10) => (Owns.cell (OwnT.keptG HOE.out (fun g' e => by obtain rfl : g = g' := (by simpa [Value.ownBlock] using e); exact hgE) hk) j cc hc hwlj : W'.cell? ⟨g, j * 10 + cc, none⟩ = T2.cs[cc]?))
            have hjm : (i : Int) - 1 - (q : Int) = (j : Int) := by omega
            have hji : (j : Int) < (i : Int) + 1 := by omega
            have hji2 : j < i + 1 := by omega
            have heq := fun w' => eq_told T2 w'
            dsimp only [Tld.cells] at heq hlk
            have HUN := Lib.hid hun
            have HLK2 := Lib.hid hlk
            have HQ2 : Hid (i - (q + 1) = j) := Lib.hid (by omega)
            clear hj hjl hx hun hlk hwlj hT2
            go_upto_region 20 with fail
            refine wp_region_seg [(false, 4), (true, 11)] (by kernel_rfl) (by kernel_rfl) ?_
            simp only [segP, List.take_succ_cons, List.take_zero, List.drop_succ_cons, List.drop_zero]
            go_wp2_with (go_at_call 25; refine HUN.out.mono ?_; rintro e W7 ⟨rfl, H7, hk7⟩)
            have HK7 := HK.drew.trans hk7
            have e0 := HWC.out W7 HK7 0 (by decide)
            have e1 := HWC.out W7 HK7 1 (by decide)
            have e2 := HWC.out W7 HK7 2 (by decide)
            have e3 := HWC.out W7 HK7 3 (by decide)
            have e4 := HWC.out W7 HK7 4 (by decide)
            have e5 := HWC.out W7 HK7 5 (by decide)
            have e6 := HWC.out W7 HK7 6 (by decide)
            have e7 := HWC.out W7 HK7 7 (by decide)
            have e8 := HWC.out W7 HK7 8 (by decide)
            have e9 := HWC.out W7 HK7 9 (by decide)
            simp only [List.getElem?_cons_zero, List.getElem?_cons_succ, Nat.add_zero] at e0 e1 e2 e3 e4 e5 e6 e7 e8 e9
            have re0 := fun dd os => cell_regrown e0 dd os
            have re1 := fun dd os => cell_regrown e1 dd os
            have re2 := fun dd os => cell_regrown e2 dd os
            have re3 := fun dd os => cell_regrown e3 dd os
            have re4 := fun dd os => cell_regrown e4 dd os
            have re5 := fun dd os => cell_regrown e5 dd os
            have re6 := fun dd os => cell_regrown e6 dd os
            have re7 := fun dd os => cell_regrown e7 dd os
            have re8 := fun dd os => cell_regrown e8 dd os
            have re9 := fun dd os => cell_regrown e9 dd os
            simp only [headQ]
            refine ⟨fun w' => ∃ p : Regrown, w' = grow (redrawn W7 p.d) p.os, reg_self W7, ?_⟩
            repeat (first | go_big_quiet_step (exact Calls.regrown_of (HLK2.out _ (H7.regrown _ _))) | quiet_step (fail))
            refine wpQuiet_nil ?_
            rintro _ ⟨qq, rfl⟩
            have hb9 := below_regrown W7 qq.d qq.os
            generalize grow (redrawn W7 qq.d) qq.os = w9 at *
            clear e0 e1 e2 e3 e4 e5 e6 e7 e8 e9 re0 re1 re2 re3 re4 re5 re6 re7 re8 re9
            go_wp2_with fail
            go_roundw
            case rel => exact ⟨q + 1, by omega, by go_num, by rw [HQ2.out]; exact H7.below hb9, HK7.trans (Kept.of_below hb9)⟩
            case measure => simp [intOf]; omega
          · have hqe : q = K := by omega
            subst hqe
            obtain ⟨j, hj⟩ : ∃ j, i - q = j := ⟨_, rfl⟩
            rw [hj] at H
            have hji : j + q = i := by omega
            have hjl : j ≤ p.steps.length := by rw [HI.out]; omega
            go_upto_region 23 with fail
            go_cut [100] from 93 to 99 (fun v w' => v = .bool false ∧ InP w' B (p.at j (p.bk j)) G ∧ Kept G wE w')
            case first =>
              by_cases hqi : q = i
              · have hqiB : ((q : Int) == (i : Int)) = true := by rw [beq_iff_eq]; omega
                have hqiC : (q == i) = true := beq_iff_eq.2 hqi
                have hqiD : decide (q = i) = true := decide_eq_true hqi
                have hj0 : j = 0 := by omega
                subst hj0
                have hun := in_undo H (undoV_ok H.ok)
                rw [at_undo0] at hun
                have HUN := Lib.hid hun
                clear hun hqi hj
                go_wp2_with (go_at_call 25; refine HUN.out.mono ?_; rintro e W7 ⟨rfl, H7, hk7⟩)
                go_meet
                case rel => exact ⟨rfl, H7, HK.trans hk7⟩
              · have hqiB : ((q : Int) == (i : Int)) = false := by rw [beq_eq_false_iff_ne]; omega
                have hqiC : (q == i) = false := beq_eq_false_iff_ne.2 hqi
                have hqiD : decide (q = i) = false := decide_eq_false hqi
                clear hqi hj
                go_wp2_with fail
                go_meet
                case rel => exact ⟨rfl, H, HK⟩
            case rest =>
              clear H HK
              obtain ⟨rfl, H, HK⟩ := hcut
              by_cases hAB : 0 < q ∧ bk0 % 2 = 0
              · have hq0 : decide ((q : Int) > 0) = true := by rw [decide_eq_true_eq]; omega
                have hq1 : decide (0 < q) = true := decide_eq_true hAB.1
                have hev : ((bk0 : Int) % 2 == 0) = true := by rw [beq_iff_eq]; omega
                have hjl2 : j < p.steps.length := by rw [HI.out]; omega
                have hov := HHI.out.not_over hjl2
                obtain ⟨tj, hpj⟩ := HHI.out.inv j hjl
                obtain ⟨Q, hQ⟩ : ∃ Q, p.at j [] = Q := ⟨_, rfl⟩
                have hQb : p.at j (p.bk j) = { Q with back := p.bk j } := by rw [← hQ]; rfl
                have hQe : Q.back = [] := by rw [← hQ]; rfl
                have hQ0 : ({ Q with back := [] } : Ply) = Q := by rw [← hQe]
                rw [hQ] at hov hpj
                rw [hQb] at H
                obtain ⟨T2, hT2⟩ : ∃ T2, Q.tld = T2 := ⟨_, rfl⟩
                have hwlj := wl_get p (i := j) (by omega)
                rw [hQ, hT2] at hwlj
                obtain ⟨L2, hL2⟩ : ∃ L2, Q.st.legal = L2 := ⟨_, rfl⟩
                have hL21 : L2 ≠ 0 := by rw [← hL2]; exact hpj.legal_ne HD.out hov
                have hL264 : W64 L2 := by rw [← hL2]; exact hpj.legal64 HD.out
                have hlg2 := fun (W' : World) (h : InP W' B { Q with back := p.bk j } G) => in_legal h
                have hl2' : ({ Q with back := p.bk j } : Ply).st.legal = L2 := hL2
                rw [hl2'] at hlg2
                obtain ⟨n2, hn2⟩ : ∃ n2, bk0 / 2 = n2 := ⟨_, rfl⟩
                have hn2i : (bk0 : Int) / 2 = (n2 : Int) := by omega
                have hn256 : n2 < 256 := by omega
                have hn2t : (bk0 : Int).tdiv 2 = (n2 : Int) := by rw [Int.tdiv_eq_ediv_of_nonneg (by omega)]; exact hn2i
                have hpk := pickV_spec hL264 hL21 n2
                obtain ⟨c, hcc⟩ : ∃ c, pickV L2 n2 = c := ⟨_, rfl⟩
                rw [hcc] at hpk
                have hcb := hpk.2
                rw [← hL2] at hcb
                have hc52 : c < 52 := hpj.legal_52 HD.out hcb
                have hdv := do_yes (b := p.bk j) hov ⟨hc52, hcb⟩
                have hpk2 := (hpj.do HD.out hcb).2
                obtain ⟨R, hR⟩ : ∃ R, ({ Q with back := [] } : Ply).put c = R := ⟨_, rfl⟩
                have hRb : R.back = [] := by rw [← hR]; rfl
                have hud := undo_put Q c
                have hrd := redo_put Q c
                rw [hR] at hdv hpk2 hud hrd
                have hrr : R.redoV = (6, R) := by unfold Ply.redoV; rw [hRb]; rfl
                have HDO : Hid (∀ W', InP W' B { Q with back := p.bk j } G → Calls Tryd.prog 18 #[.pointer (some ⟨B, 0, none⟩), .int .u8 (c : Int)] W' fun e W'' => e = .returned (.int .i64 0) ∧ InP W'' B R G ∧ Kept G W' W'') := Lib.hid fun W' h => by
                  have := in_do h c (by omega) (by rw [hdv]; exact hpk2.ok)
                  rw [hdv] at this; exact this
                have HR6 : Hid (∀ W', InP W' B R G → Calls Tryd.prog 26 #[.pointer (some ⟨B, 0, none⟩)] W' fun e W'' => e = .returned (.int .i64 6) ∧ InP W'' B R G ∧ Kept G W' W'') := Lib.hid fun W' h => by
                  have := in_redo h
                  rw [hrr] at this; exact this
                have HRU : Hid (∀ W', InP W' B R G → Calls Tryd.prog 25 #[.pointer (some ⟨B, 0, none⟩)] W' fun e W'' => e = .returned (.int .i64 0) ∧ InP W'' B { Q with back := [c] } G ∧ Kept G W' W'') := Lib.hid fun W' h => by
                  have := in_undo h (undoV_ok h.ok)
                  rw [hud] at this; exact this
                have HRR : Hid (∀ W', InP W' B { Q with back := [c] } G → Calls Tryd.prog 26 #[.pointer (some ⟨B, 0, none⟩)] W' fun e W'' => e = .returned (.int .i64 0) ∧ InP W'' B R G ∧ Kept G W' W'') := Lib.hid fun W' h => by
                  have := in_redo h
                  rw [hrd] at this; exact this
                have hlk := fun (W' : World) (h : InP W' B { Q with back := [c] } G) => HLK.out _ W' _ h
                rw [tld_bk, hT2] at hlk
                have HWC := Lib.hid (fun (W' : World) (hk : Kept G wE W') (cc : Nat) (hc : cc < 10) => (Owns.cell (OwnT.keptG HOE.out (fun g' e => by obtain rfl : g = g' := (by simpa [Value.ownBlock] using e); exact hgE) hk) j cc hc hwlj : W'.cell? ⟨g, j * 10 + cc, none⟩ = T2.cs[cc]?))
                have heq := fun w' => eq_told T2 w'
                dsimp only [Tld.cells] at heq hlk
                have HLK2 := Lib.hid hlk
                have HLG2 := Lib.hid hlg2
                have hjm : (i : Int) - (q : Int) = (j : Int) := by omega
                have hjI : (j : Int) < (i : Int) + 1 := by omega
                have hjN : j < i + 1 := by omega
                have hTE : Tab wc := H.tab
                have HTE := Lib.hid hTE
                have HPK := Lib.hid hcc
                have hnw : IntKind.u8.wrap (n2 : Int) = (n2 : Int) := by rw [IntKind.wrap_u8]; omega
                clear hAB hjl hjl2 hov hpj hQ hQb hQe hQ0 hT2 hwlj hL2 hlg2 hl2' hn2 hpk hcb hdv hpk2 hR hRb hud hrd hrr hlk hTE hcc hj
                go_upto_region 26 with fail
                refine wp_region_seg [(true, 6), (false, 13), (true, 9), (false, 11)] (by kernel_rfl) (by kernel_rfl) ?_
                simp only [segP, List.take_succ_cons, List.take_zero, List.drop_succ_cons, List.drop_zero]
                refine ⟨fun w' => ∃ p : Regrown, w' = grow (redrawn wc p.d) p.os, ⟨⟨wc.drawn + 1, #[]⟩, by rw [grow_empty]; rfl⟩, ?_⟩
                repeat (quiet_step (first | exact Calls.regrown_of (HLG2.out _ (H.regrown _ _)) | exact Calls.regrown_of ((law12_cardV L2 n2 hL264 hL21 hn256 _ (H.regrown _ _).tab).mono fun _ _ ⟨he, hw⟩ => ⟨he, hw ▸ Below.refl _ _⟩)))
                refine wpQuiet_nil ?_
                rintro _ ⟨qq, rfl⟩
                have hb3 := below_regrown wc qq.d qq.os
                generalize grow (redrawn wc qq.d) qq.os = w5 at *
                rw [HPK.out]
                clear hnw
                go_wp2_with (first
                  | (go_at_call 18; refine (HDO.out _ (H.below hb3)).mono ?_; rintro e W6 ⟨rfl, H6, hk6⟩)
                  | (go_at_call 26; refine (HR6.out _ H6).mono ?_; rintro e W7 ⟨rfl, H7, hk7⟩)
                  | (go_at_call 25; refine (HRU.out _ H7).mono ?_; rintro e W8 ⟨rfl, H8, hk8⟩))
                simp only [headQ]
                have HK8 := (((HK.trans (Kept.of_below hb3)).trans hk6).trans hk7).trans hk8
                have e0 := HWC.out W8 HK8 0 (by decide)
                have e1 := HWC.out W8 HK8 1 (by decide)
                have e2 := HWC.out W8 HK8 2 (by decide)
                have e3 := HWC.out W8 HK8 3 (by decide)
                have e4 := HWC.out W8 HK8 4 (by decide)
                have e5 := HWC.out W8 HK8 5 (by decide)
                have e6 := HWC.out W8 HK8 6 (by decide)
                have e7 := HWC.out W8 HK8 7 (by decide)
                have e8 := HWC.out W8 HK8 8 (by decide)
                have e9 := HWC.out W8 HK8 9 (by decide)
                simp only [List.getElem?_cons_zero, List.getElem?_cons_succ, Nat.add_zero] at e0 e1 e2 e3 e4 e5 e6 e7 e8 e9
                have re0 := fun dd os => cell_regrown e0 dd os
                have re1 := fun dd os => cell_regrown e1 dd os
                have re2 := fun dd os => cell_regrown e2 dd os
                have re3 := fun dd os => cell_regrown e3 dd os
                have re4 := fun dd os => cell_regrown e4 dd os
                have re5 := fun dd os => cell_regrown e5 dd os
                have re6 := fun dd os => cell_regrown e6 dd os
                have re7 := fun dd os => cell_regrown e7 dd os
                have re8 := fun dd os => cell_regrown e8 dd os
                have re9 := fun dd os => cell_regrown e9 dd os
                refine ⟨fun w' => ∃ p : Regrown, w' = grow (redrawn W8 p.d) p.os, reg_self W8, ?_⟩
                repeat (first | go_big_quiet_step (exact Calls.regrown_of (HLK2.out _ (H8.regrown _ _))) | quiet_step (fail))
                refine wpQuiet_nil ?_
                rintro _ ⟨q9, rfl⟩
                have hb9 := below_regrown W8 q9.d q9.os
                generalize grow (redrawn W8 q9.d) q9.os = w9 at *
                clear e0 e1 e2 e3 e4 e5 e6 e7 e8 e9 re0 re1 re2 re3 re4 re5 re6 re7 re8 re9
                have H9 := H8.below hb9
                go_wp2_with (first
                  | (go_at_call 26; with_reducible refine (HRR.out _ H9).mono ?_; rintro e W10 ⟨rfl, H10, hk10⟩)
                  | (go_at_call 26; with_reducible refine (HR6.out _ H10).mono ?_; rintro e W11 ⟨rfl, H11, hk11⟩))
                simp only [headQ]
                go_wp2_with fail
                go_ret
                exact ⟨rfl, HB3.out.trans ((below_keptG HBE.out (((HK8.trans (Kept.of_below hb9)).trans hk10).trans hk11) HGW.out).mono hwl)⟩
              · by_cases hq0 : 0 < q
                · have hev0 : bk0 % 2 ≠ 0 := fun e => hAB ⟨hq0, e⟩
                  have hq1 : decide ((q : Int) > 0) = true := by rw [decide_eq_true_eq]; omega
                  have hq2 : decide (0 < q) = true := decide_eq_true hq0
                  have hev : ((bk0 : Int) % 2 == 0) = false := by rw [beq_eq_false_iff_ne]; omega
                  clear hAB hj hev0
                  go_wp2_with fail
                  go_loopw [148] (fun v wq => ∃ r : Nat, r ≤ q ∧ v = .int .i64 (r : Int) ∧ InP wq B (p.at (j + r) (p.bk (j + r))) G ∧ Kept G wE wq) (fun v _ => q - (intOf v).toNat)
                  case atStart => exact ⟨0, by omega, rfl, H, HK⟩
                  case round =>
                    clear H HK
                    obtain ⟨r, hr, rfl, H, HK⟩ := hrel
                    by_cases hrq : r < q
                    · have hjl3 : j + r < p.steps.length := by rw [HI.out]; omega
                      have hx := List.getElem?_eq_getElem hjl3
                      have hrd : (p.at (j + r) (p.bk (j + r))).redoV = (0, p.at (j + r + 1) (p.bk (j + r + 1))) := by
                        rw [bk_succ p hx]; exact at_redo HHI.out hx _
                      have hun := in_redo (H.below ((Below.refl _ _).drew))
                      rw [hrd] at hun
                      obtain ⟨T2, hT2⟩ : ∃ T2, (p.at (j + r + 1) []).tld = T2 := ⟨_, rfl⟩
                      have hlk := fun (W' : World) (h : InP W' B (p.at (j + r + 1) (p.bk (j + r + 1))) G) => HLK.out _ W' _ h
                      rw [tld_at, hT2] at hlk
                      have hwlj := wl_get p (i := j + r + 1) (by omega)
                      rw [hT2] at hwlj
                      obtain ⟨jr, hjr⟩ : ∃ jr, j + r + 1 = jr := ⟨_, rfl⟩
                      rw [hjr] at hwlj hun hlk
                      have HWC := Lib.hid (fun (W' : World) (hk : Kept G wE W') (cc : Nat) (hc : cc < 10) => (Owns.cell (OwnT.keptG HOE.out (fun g' e => by obtain rfl : g = g' := (by simpa [Value.ownBlock] using e); exact hgE) hk) jr cc hc hwlj : W'.cell? ⟨g, jr * 10 + cc, none⟩ = T2.cs[cc]?))
                      have hjm : (i : Int) - (q : Int) + 1 + (r : Int) = (jr : Int) := by omega
                      have hjI : (jr : Int) < (i : Int) + 1 := by omega
                      have hjN : jr < i + 1 := by omega
                      have heq := fun w' => eq_told T2 w'
                      dsimp only [Tld.cells] at heq hlk
                      have HUN := Lib.hid hun
                      have HLK2 := Lib.hid hlk
                      have HJR : Hid (j + (r + 1) = jr) := Lib.hid (by omega)
                      clear hjl3 hx hrd hun hlk hwlj hT2 hjr
                      go_upto_region 32 with fail
                      refine wp_region_seg [(false, 4), (true, 13)] (by kernel_rfl) (by kernel_rfl) ?_
                      simp only [segP, List.take_succ_cons, List.take_zero, List.drop_succ_cons, List.drop_zero]
                      go_wp2_with (go_at_call 26; refine HUN.out.mono ?_; rintro e W7 ⟨rfl, H7, hk7⟩)
                      have HK7 := HK.drew.trans hk7
                      have e0 := HWC.out W7 HK7 0 (by decide)
                      have e1 := HWC.out W7 HK7 1 (by decide)
                      have e2 := HWC.out W7 HK7 2 (by decide)
                      have e3 := HWC.out W7 HK7 3 (by decide)
                      have e4 := HWC.out W7 HK7 4 (by decide)
                      have e5 := HWC.out W7 HK7 5 (by decide)
                      have e6 := HWC.out W7 HK7 6 (by decide)
                      have e7 := HWC.out W7 HK7 7 (by decide)
                      have e8 := HWC.out W7 HK7 8 (by decide)
                      have e9 := HWC.out W7 HK7 9 (by decide)
                      simp only [List.getElem?_cons_zero, List.getElem?_cons_succ, Nat.add_zero] at e0 e1 e2 e3 e4 e5 e6 e7 e8 e9
                      have re0 := fun dd os => cell_regrown e0 dd os
                      have re1 := fun dd os => cell_regrown e1 dd os
                      have re2 := fun dd os => cell_regrown e2 dd os
                      have re3 := fun dd os => cell_regrown e3 dd os
                      have re4 := fun dd os => cell_regrown e4 dd os
                      have re5 := fun dd os => cell_regrown e5 dd os
                      have re6 := fun dd os => cell_regrown e6 dd os
                      have re7 := fun dd os => cell_regrown e7 dd os
                      have re8 := fun dd os => cell_regrown e8 dd os
                      have re9 := fun dd os => cell_regrown e9 dd os
                      have hw1 : IntKind.i64.wrap ((i : Int) - (q : Int)) = (i : Int) - (q : Int) := IntWalk.i64_in _ (by omega)
                      have hw2 : IntKind.i64.wrap ((i : Int) - (q : Int) + 1) = (i : Int) - (q : Int) + 1 := IntWalk.i64_in _ (by omega)
                      have hw3 : IntKind.i64.wrap ((i : Int) - (q : Int) + 1 + (r : Int)) = (jr : Int) := by rw [IntWalk.i64_in _ (by omega)]; exact hjm
                      simp only [headQ]
                      refine ⟨fun w' => ∃ p : Regrown, w' = grow (redrawn W7 p.d) p.os, reg_self W7, ?_⟩
                      repeat (first | go_big_quiet_step (exact Calls.regrown_of (HLK2.out _ (H7.regrown _ _))) | quiet_step (fail))
                      refine wpQuiet_nil ?_
                      rintro _ ⟨qq, rfl⟩
                      have hb9 := below_regrown W7 qq.d qq.os
                      generalize grow (redrawn W7 qq.d) qq.os = w9 at *
                      clear e0 e1 e2 e3 e4 e5 e6 e7 e8 e9 re0 re1 re2 re3 re4 re5 re6 re7 re8 re9 hw1 hw2 hw3
                      go_wp2_with fail
                      go_roundw
                      case rel => exact ⟨r + 1, by omega, by go_num, by rw [HJR.out]; exact H7.below hb9, HK7.trans (Kept.of_below hb9)⟩
                      case measure => simp [intOf]; omega
                    · have hre : r = q := by omega
                      subst hre
                      have hbn : p.bk (j + r) = [] := by rw [hji, ← HI.out]; exact bk_full p
                      rw [hbn] at H
                      have hun := in_redo H
                      rw [at_redo0] at hun
                      have HUN := Lib.hid hun
                      clear hun hbn
                      go_wp2_with (go_at_call 26; refine HUN.out.mono ?_; rintro e W7 ⟨rfl, H7, hk7⟩)
                      go_ret
                      exact ⟨rfl, HB3.out.trans ((below_keptG HBE.out (HK.trans hk7) HGW.out).mono hwl)⟩
                · have hq1 : decide ((q : Int) > 0) = false := by rw [decide_eq_false_iff_not]; omega
                  have hq2 : decide (0 < q) = false := decide_eq_false hq0
                  clear hAB hj
                  go_wp2_with fail
                  go_loopw [148] (fun v wq => ∃ r : Nat, r ≤ q ∧ v = .int .i64 (r : Int) ∧ InP wq B (p.at (j + r) (p.bk (j + r))) G ∧ Kept G wE wq) (fun v _ => q - (intOf v).toNat)
                  case atStart => exact ⟨0, by omega, rfl, H, HK⟩
                  case round =>
                    clear H HK
                    obtain ⟨r, hr, rfl, H, HK⟩ := hrel
                    by_cases hrq : r < q
                    · have hjl3 : j + r < p.steps.length := by rw [HI.out]; omega
                      have hx := List.getElem?_eq_getElem hjl3
                      have hrd : (p.at (j + r) (p.bk (j + r))).redoV = (0, p.at (j + r + 1) (p.bk (j + r + 1))) := by
                        rw [bk_succ p hx]; exact at_redo HHI.out hx _
                      have hun := in_redo (H.below ((Below.refl _ _).drew))
                      rw [hrd] at hun
                      obtain ⟨T2, hT2⟩ : ∃ T2, (p.at (j + r + 1) []).tld = T2 := ⟨_, rfl⟩
                      have hlk := fun (W' : World) (h : InP W' B (p.at (j + r + 1) (p.bk (j + r + 1))) G) => HLK.out _ W' _ h
                      rw [tld_at, hT2] at hlk
                      have hwlj := wl_get p (i := j + r + 1) (by omega)
                      rw [hT2] at hwlj
                      obtain ⟨jr, hjr⟩ : ∃ jr, j + r + 1 = jr := ⟨_, rfl⟩
                      rw [hjr] at hwlj hun hlk
                      have HWC := Lib.hid (fun (W' : World) (hk : Kept G wE W') (cc : Nat) (hc : cc < 10) => (Owns.cell (OwnT.keptG HOE.out (fun g' e => by obtain rfl : g = g' := (by simpa [Value.ownBlock] using e); exact hgE) hk) jr cc hc hwlj : W'.cell? ⟨g, jr * 10 + cc, none⟩ = T2.cs[cc]?))
                      have hjm : (i : Int) - (q : Int) + 1 + (r : Int) = (jr : Int) := by omega
                      have hjI : (jr : Int) < (i : Int) + 1 := by omega
                      have hjN : jr < i + 1 := by omega
                      have heq := fun w' => eq_told T2 w'
                      dsimp only [Tld.cells] at heq hlk
                      have HUN := Lib.hid hun
                      have HLK2 := Lib.hid hlk
                      have HJR : Hid (j + (r + 1) = jr) := Lib.hid (by omega)
                      clear hjl3 hx hrd hun hlk hwlj hT2 hjr
                      go_upto_region 32 with fail
                      refine wp_region_seg [(false, 4), (true, 13)] (by kernel_rfl) (by kernel_rfl) ?_
                      simp only [segP, List.take_succ_cons, List.take_zero, List.drop_succ_cons, List.drop_zero]
                      go_wp2_with (go_at_call 26; refine HUN.out.mono ?_; rintro e W7 ⟨rfl, H7, hk7⟩)
                      have HK7 := HK.drew.trans hk7
                      have e0 := HWC.out W7 HK7 0 (by decide)
                      have e1 := HWC.out W7 HK7 1 (by decide)
                      have e2 := HWC.out W7 HK7 2 (by decide)
                      have e3 := HWC.out W7 HK7 3 (by decide)
                      have e4 := HWC.out W7 HK7 4 (by decide)
                      have e5 := HWC.out W7 HK7 5 (by decide)
                      have e6 := HWC.out W7 HK7 6 (by decide)
                      have e7 := HWC.out W7 HK7 7 (by decide)
                      have e8 := HWC.out W7 HK7 8 (by decide)
                      have e9 := HWC.out W7 HK7 9 (by decide)
                      simp only [List.getElem?_cons_zero, List.getElem?_cons_succ, Nat.add_zero] at e0 e1 e2 e3 e4 e5 e6 e7 e8 e9
                      have re0 := fun dd os => cell_regrown e0 dd os
                      have re1 := fun dd os => cell_regrown e1 dd os
                      have re2 := fun dd os => cell_regrown e2 dd os
                      have re3 := fun dd os => cell_regrown e3 dd os
                      have re4 := fun dd os => cell_regrown e4 dd os
                      have re5 := fun dd os => cell_regrown e5 dd os
                      have re6 := fun dd os => cell_regrown e6 dd os
                      have re7 := fun dd os => cell_regrown e7 dd os
                      have re8 := fun dd os => cell_regrown e8 dd os
                      have re9 := fun dd os => cell_regrown e9 dd os
                      have hw1 : IntKind.i64.wrap ((i : Int) - (q : Int)) = (i : Int) - (q : Int) := IntWalk.i64_in _ (by omega)
                      have hw2 : IntKind.i64.wrap ((i : Int) - (q : Int) + 1) = (i : Int) - (q : Int) + 1 := IntWalk.i64_in _ (by omega)
                      have hw3 : IntKind.i64.wrap ((i : Int) - (q : Int) + 1 + (r : Int)) = (jr : Int) := by rw [IntWalk.i64_in _ (by omega)]; exact hjm
                      simp only [headQ]
                      refine ⟨fun w' => ∃ p : Regrown, w' = grow (redrawn W7 p.d) p.os, reg_self W7, ?_⟩
                      repeat (first | go_big_quiet_step (exact Calls.regrown_of (HLK2.out _ (H7.regrown _ _))) | quiet_step (fail))
                      refine wpQuiet_nil ?_
                      rintro _ ⟨qq, rfl⟩
                      have hb9 := below_regrown W7 qq.d qq.os
                      generalize grow (redrawn W7 qq.d) qq.os = w9 at *
                      clear e0 e1 e2 e3 e4 e5 e6 e7 e8 e9 re0 re1 re2 re3 re4 re5 re6 re7 re8 re9 hw1 hw2 hw3
                      go_wp2_with fail
                      go_roundw
                      case rel => exact ⟨r + 1, by omega, by go_num, by rw [HJR.out]; exact H7.below hb9, HK7.trans (Kept.of_below hb9)⟩
                      case measure => simp [intOf]; omega
                    · have hre : r = q := by omega
                      subst hre
                      have hbn : p.bk (j + r) = [] := by rw [hji, ← HI.out]; exact bk_full p
                      rw [hbn] at H
                      have hun := in_redo H
                      rw [at_redo0] at hun
                      have HUN := Lib.hid hun
                      clear hun hbn
                      go_wp2_with (go_at_call 26; refine HUN.out.mono ?_; rintro e W7 ⟨rfl, H7, hk7⟩)
                      go_ret
                      exact ⟨rfl, HB3.out.trans ((below_keptG HBE.out (HK.trans hk7) HGW.out).mono hwl)⟩
    · have hL := legal_over ho
      have hlg := fun (W' : World) (G' : Nat → Prop) (h : InP W' B p G') => in_legal h
      rw [hL] at hlg
      have HLG := Lib.hid hlg
      clear hlg hL ho hp hl hi
      have hwl1 := wl_len p
      rw [HI.out] at hwl1
      obtain ⟨av, cv, hv, hne⟩ := Owns.slice HOW.out
      obtain ⟨g, rfl⟩ := hne (by intro e; rw [e] at hwl1; simp at hwl1)
      rw [hwl1] at hv
      subst hv
      have hgG := HVG.out g rfl
      have hRD := in_redo H
      have hrv : p.redoV = (6, p) := by unfold Ply.redoV; rw [HBK.out]; rfl
      rw [hrv] at hRD
      have HRD := Lib.hid (fun (W' : World) (h : InP W' B p G) => (by have := in_redo h; rw [hrv] at this; exact this : Calls Tryd.prog 26 #[.pointer (some ⟨B, 0, none⟩)] W' fun e W'' => e = .returned (.int .i64 6) ∧ InP W'' B p G ∧ Kept G W' W''))
      clear hRD hrv hne hwl1
      obtain ⟨K, hK⟩ : ∃ K, bk0 % (i + 1) = K := ⟨_, rfl⟩
      have hKi : K ≤ i := by have := Nat.mod_lt bk0 (show 0 < i + 1 by omega); rw [hK] at this; omega
      have hKm : (bk0 : Int) % ((i : Int) + 1) = (K : Int) := by rw [← hK]; first | exact (Int.natCast_emod bk0 (i + 1)).symm | (push_cast; rfl) | rfl
      have hl1 : ((i : Int) + 1) - 1 = (i : Int) := by omega
      clear hK
      go_wp2_with (first
        | (go_at_call 14; refine (HLG.out _ _ H).mono ?_; rintro e W3 ⟨rfl, hb3⟩)
        | (go_at_call 26; refine (HRD.out _ (H.below hb3)).mono ?_; rintro e wE ⟨rfl, HE, hkE⟩))
      have hOE : OwnT wE w3.heap.size (.slice (some ⟨g, 0, none⟩) (i + 1) cv) p.wl := OwnT.keptG (HOW.out.below hb3) HVG.out hkE
      have hBE : Below w3.heap.size w3 wE := (HB.out.trans (hb3.mono HB.out.size)).trans ⟨hkE.os, hkE.tape, hkE.output, hkE.size, fun c hc => hkE.block c (HGW.out c hc) (by have := HB.out.size; have := hb3.size; omega)⟩
      have HOE := Lib.hid hOE
      have HBE := Lib.hid hBE
      have HEE : InP wE B (p.at (i - 0) (p.bk (i - 0))) G := by
        rw [Nat.sub_zero, ← HI.out, at_full, bk_full]
        have e : ({ p with back := [] } : Ply) = p := by rw [← HBK.out]
        rw [e]; exact HE
      clear hOE hBE hb3 hkE HE H HRD
      rw [hKm]
      clear hKm
      have hgE : G g := hgG
      go_loopw [74] (fun j wq => ∃ q : Nat, q ≤ K ∧ j = .int .i64 (q : Int) ∧ InP wq B (p.at (i - q) (p.bk (i - q))) G ∧ Kept G wE wq) (fun j _ => K - (intOf j).toNat)
      case atStart => exact ⟨0, by omega, rfl, HEE, Kept.refl _ _⟩
      case round =>
        obtain ⟨q, hq, rfl, H, HK⟩ := hrel
        by_cases hqK : q < K
        · obtain ⟨j, hj⟩ : ∃ j, i - q = j + 1 := ⟨i - q - 1, by omega⟩
          rw [hj] at H
          have hjl : j < p.steps.length := by rw [HI.out]; omega
          have hx := List.getElem?_eq_getElem hjl
          have hun := in_undo (H.below ((Below.refl _ _).drew)) (undoV_ok H.ok)
          rw [at_undo p hx, ← bk_succ p hx] at hun
          obtain ⟨T2, hT2⟩ : ∃ T2, (p.at j []).tld = T2 := ⟨_, rfl⟩
          have hlk := fun (W' : World) (h : InP W' B (p.at j (p.bk j)) G) => HLK.out _ W' _ h
          rw [tld_at, hT2] at hlk
          have hwlj := wl_get p (i := j) (by omega)
          rw [hT2] at hwlj
          have HWC := Lib.hid (fun (W' : World) (hk : Kept G wE W') (cc : Nat) (hc : cc < 10) => (Owns.cell (OwnT.keptG HOE.out (fun g' e => by obtain rfl : g = g' := (by simpa [Value.ownBlock] using e); exact hgE) hk) j cc hc hwlj : W'.cell? ⟨g, j * 10 + cc, none⟩ = T2.cs[cc]?))
          have hjm : (i : Int) - 1 - (q : Int) = (j : Int) := by omega
          have hji : (j : Int) < (i : Int) + 1 := by omega
          have hji2 : j < i + 1 := by omega
          have heq := fun w' => eq_told T2 w'
          dsimp only [Tld.cells] at heq hlk
          have HUN := Lib.hid hun
          have HLK2 := Lib.hid hlk
          have HQ2 : Hid (i - (q + 1) = j) := Lib.hid (by omega)
          clear hj hjl hx hun hlk hwlj hT2
          go_upto_region 20 with fail
          refine wp_region_seg [(false, 4), (true, 11)] (by kernel_rfl) (by kernel_rfl) ?_
          simp only [segP, List.take_succ_cons, List.take_zero, List.drop_succ_cons, List.drop_zero]
          go_wp2_with (go_at_call 25; refine HUN.out.mono ?_; rintro e W7 ⟨rfl, H7, hk7⟩)
          have HK7 := HK.drew.trans hk7
          have e0 := HWC.out W7 HK7 0 (by decide)
          have e1 := HWC.out W7 HK7 1 (by decide)
          have e2 := HWC.out W7 HK7 2 (by decide)
          have e3 := HWC.out W7 HK7 3 (by decide)
          have e4 := HWC.out W7 HK7 4 (by decide)
          have e5 := HWC.out W7 HK7 5 (by decide)
          have e6 := HWC.out W7 HK7 6 (by decide)
          have e7 := HWC.out W7 HK7 7 (by decide)
          have e8 := HWC.out W7 HK7 8 (by decide)
          have e9 := HWC.out W7 HK7 9 (by decide)
          simp only [List.getElem?_cons_zero, List.getElem?_cons_succ, Nat.add_zero] at e0 e1 e2 e3 e4 e5 e6 e7 e8 e9
          have re0 := fun dd os => cell_regrown e0 dd os
          have re1 := fun dd os => cell_regrown e1 dd os
          have re2 := fun dd os => cell_regrown e2 dd os
          have re3 := fun dd os => cell_regrown e3 dd os
          have re4 := fun dd os => cell_regrown e4 dd os
          have re5 := fun dd os => cell_regrown e5 dd os
          have re6 := fun dd os => cell_regrown e6 dd os
          have re7 := fun dd os => cell_regrown e7 dd os
          have re8 := fun dd os => cell_regrown e8 dd os
          have re9 := fun dd os => cell_regrown e9 dd os
          simp only [headQ]
          refine ⟨fun w' => ∃ p : Regrown, w' = grow (redrawn W7 p.d) p.os, reg_self W7, ?_⟩
          repeat (first | go_big_quiet_step (exact Calls.regrown_of (HLK2.out _ (H7.regrown _ _))) | quiet_step (fail))
          refine wpQuiet_nil ?_
          rintro _ ⟨qq, rfl⟩
          have hb9 := below_regrown W7 qq.d qq.os
          generalize grow (redrawn W7 qq.d) qq.os = w9 at *
          clear e0 e1 e2 e3 e4 e5 e6 e7 e8 e9 re0 re1 re2 re3 re4 re5 re6 re7 re8 re9
          go_wp2_with fail
          go_roundw
          case rel => exact ⟨q + 1, by omega, by go_num, by rw [HQ2.out]; exact H7.below hb9, HK7.trans (Kept.of_below hb9)⟩
          case measure => simp [intOf]; omega
        · have hqe : q = K := by omega
          subst hqe
          obtain ⟨j, hj⟩ : ∃ j, i - q = j := ⟨_, rfl⟩
          rw [hj] at H
          have hji : j + q = i := by omega
          have hjl : j ≤ p.steps.length := by rw [HI.out]; omega
          go_upto_region 23 with fail
          go_cut [100] from 93 to 99 (fun v w' => v = .bool false ∧ InP w' B (p.at j (p.bk j)) G ∧ Kept G wE w')
          case first =>
            by_cases hqi : q = i
            · have hqiB : ((q : Int) == (i : Int)) = true := by rw [beq_iff_eq]; omega
              have hqiC : (q == i) = true := beq_iff_eq.2 hqi
              have hqiD : decide (q = i) = true := decide_eq_true hqi
              have hj0 : j = 0 := by omega
              subst hj0
              have hun := in_undo H (undoV_ok H.ok)
              rw [at_undo0] at hun
              have HUN := Lib.hid hun
              clear hun hqi hj
              go_wp2_with (go_at_call 25; refine HUN.out.mono ?_; rintro e W7 ⟨rfl, H7, hk7⟩)
              go_meet
              case rel => exact ⟨rfl, H7, HK.trans hk7⟩
            · have hqiB : ((q : Int) == (i : Int)) = false := by rw [beq_eq_false_iff_ne]; omega
              have hqiC : (q == i) = false := beq_eq_false_iff_ne.2 hqi
              have hqiD : decide (q = i) = false := decide_eq_false hqi
              clear hqi hj
              go_wp2_with fail
              go_meet
              case rel => exact ⟨rfl, H, HK⟩
          case rest =>
            clear H HK
            obtain ⟨rfl, H, HK⟩ := hcut
            by_cases hAB : 0 < q ∧ bk0 % 2 = 0
            · have hq0 : decide ((q : Int) > 0) = true := by rw [decide_eq_true_eq]; omega
              have hq1 : decide (0 < q) = true := decide_eq_true hAB.1
              have hev : ((bk0 : Int) % 2 == 0) = true := by rw [beq_iff_eq]; omega
              have hjl2 : j < p.steps.length := by rw [HI.out]; omega
              have hov := HHI.out.not_over hjl2
              obtain ⟨tj, hpj⟩ := HHI.out.inv j hjl
              obtain ⟨Q, hQ⟩ : ∃ Q, p.at j [] = Q := ⟨_, rfl⟩
              have hQb : p.at j (p.bk j) = { Q with back := p.bk j } := by rw [← hQ]; rfl
              have hQe : Q.back = [] := by rw [← hQ]; rfl
              have hQ0 : ({ Q with back := [] } : Ply) = Q := by rw [← hQe]
              rw [hQ] at hov hpj
              rw [hQb] at H
              obtain ⟨T2, hT2⟩ : ∃ T2, Q.tld = T2 := ⟨_, rfl⟩
              have hwlj := wl_get p (i := j) (by omega)
              rw [hQ, hT2] at hwlj
              obtain ⟨L2, hL2⟩ : ∃ L2, Q.st.legal = L2 := ⟨_, rfl⟩
              have hL21 : L2 ≠ 0 := by rw [← hL2]; exact hpj.legal_ne HD.out hov
              have hL264 : W64 L2 := by rw [← hL2]; exact hpj.legal64 HD.out
              have hlg2 := fun (W' : World) (h : InP W' B { Q with back := p.bk j } G) => in_legal h
              have hl2' : ({ Q with back := p.bk j } : Ply).st.legal = L2 := hL2
              rw [hl2'] at hlg2
              obtain ⟨n2, hn2⟩ : ∃ n2, bk0 / 2 = n2 := ⟨_, rfl⟩
              have hn2i : (bk0 : Int) / 2 = (n2 : Int) := by omega
              have hn256 : n2 < 256 := by omega
              have hn2t : (bk0 : Int).tdiv 2 = (n2 : Int) := by rw [Int.tdiv_eq_ediv_of_nonneg (by omega)]; exact hn2i
              have hpk := pickV_spec hL264 hL21 n2
              obtain ⟨c, hcc⟩ : ∃ c, pickV L2 n2 = c := ⟨_, rfl⟩
              rw [hcc] at hpk
              have hcb := hpk.2
              rw [← hL2] at hcb
              have hc52 : c < 52 := hpj.legal_52 HD.out hcb
              have hdv := do_yes (b := p.bk j) hov ⟨hc52, hcb⟩
              have hpk2 := (hpj.do HD.out hcb).2
              obtain ⟨R, hR⟩ : ∃ R, ({ Q with back := [] } : Ply).put c = R := ⟨_, rfl⟩
              have hRb : R.back = [] := by rw [← hR]; rfl
              have hud := undo_put Q c
              have hrd := redo_put Q c
              rw [hR] at hdv hpk2 hud hrd
              have hrr : R.redoV = (6, R) := by unfold Ply.redoV; rw [hRb]; rfl
              have HDO : Hid (∀ W', InP W' B { Q with back := p.bk j } G → Calls Tryd.prog 18 #[.pointer (some ⟨B, 0, none⟩), .int .u8 (c : Int)] W' fun e W'' => e = .returned (.int .i64 0) ∧ InP W'' B R G ∧ Kept G W' W'') := Lib.hid fun W' h => by
                have := in_do h c (by omega) (by rw [hdv]; exact hpk2.ok)
                rw [hdv] at this; exact this
              have HR6 : Hid (∀ W', InP W' B R G → Calls Tryd.prog 26 #[.pointer (some ⟨B, 0, none⟩)] W' fun e W'' => e = .returned (.int .i64 6) ∧ InP W'' B R G ∧ Kept G W' W'') := Lib.hid fun W' h => by
                have := in_redo h
                rw [hrr] at this; exact this
              have HRU : Hid (∀ W', InP W' B R G → Calls Tryd.prog 25 #[.pointer (some ⟨B, 0, none⟩)] W' fun e W'' => e = .returned (.int .i64 0) ∧ InP W'' B { Q with back := [c] } G ∧ Kept G W' W'') := Lib.hid fun W' h => by
                have := in_undo h (undoV_ok h.ok)
                rw [hud] at this; exact this
              have HRR : Hid (∀ W', InP W' B { Q with back := [c] } G → Calls Tryd.prog 26 #[.pointer (some ⟨B, 0, none⟩)] W' fun e W'' => e = .returned (.int .i64 0) ∧ InP W'' B R G ∧ Kept G W' W'') := Lib.hid fun W' h => by
                have := in_redo h
                rw [hrd] at this; exact this
              have hlk := fun (W' : World) (h : InP W' B { Q with back := [c] } G) => HLK.out _ W' _ h
              rw [tld_bk, hT2] at hlk
              have HWC := Lib.hid (fun (W' : World) (hk : Kept G wE W') (cc : Nat) (hc : cc < 10) => (Owns.cell (OwnT.keptG HOE.out (fun g' e => by obtain rfl : g = g' := (by simpa [Value.ownBlock] using e); exact hgE) hk) j cc hc hwlj : W'.cell? ⟨g, j * 10 + cc, none⟩ = T2.cs[cc]?))
              have heq := fun w' => eq_told T2 w'
              dsimp only [Tld.cells] at heq hlk
              have HLK2 := Lib.hid hlk
              have HLG2 := Lib.hid hlg2
              have hjm : (i : Int) - (q : Int) = (j : Int) := by omega
              have hjI : (j : Int) < (i : Int) + 1 := by omega
              have hjN : j < i + 1 := by omega
              have hTE : Tab wc := H.tab
              have HTE := Lib.hid hTE
              have HPK := Lib.hid hcc
              have hnw : IntKind.u8.wrap (n2 : Int) = (n2 : Int) := by rw [IntKind.wrap_u8]; omega
              clear hAB hjl hjl2 hov hpj hQ hQb hQe hQ0 hT2 hwlj hL2 hlg2 hl2' hn2 hpk hcb hdv hpk2 hR hRb hud hrd hrr hlk hTE hcc hj
              go_upto_region 26 with fail
              refine wp_region_seg [(true, 6), (false, 13), (true, 9), (false, 11)] (by kernel_rfl) (by kernel_rfl) ?_
              simp only [segP, List.take_succ_cons, List.take_zero, List.drop_succ_cons, List.drop_zero]
              refine ⟨fun w' => ∃ p : Regrown, w' = grow (redrawn wc p.d) p.os, ⟨⟨wc.drawn + 1, #[]⟩, by rw [grow_empty]; rfl⟩, ?_⟩
              repeat (quiet_step (first | exact Calls.regrown_of (HLG2.out _ (H.regrown _ _)) | exact Calls.regrown_of ((law12_cardV L2 n2 hL264 hL21 hn256 _ (H.regrown _ _).tab).mono fun _ _ ⟨he, hw⟩ => ⟨he, hw ▸ Below.refl _ _⟩)))
              refine wpQuiet_nil ?_
              rintro _ ⟨qq, rfl⟩
              have hb3 := below_regrown wc qq.d qq.os
              generalize grow (redrawn wc qq.d) qq.os = w5 at *
              rw [HPK.out]
              clear hnw
              go_wp2_with (first
                | (go_at_call 18; refine (HDO.out _ (H.below hb3)).mono ?_; rintro e W6 ⟨rfl, H6, hk6⟩)
                | (go_at_call 26; refine (HR6.out _ H6).mono ?_; rintro e W7 ⟨rfl, H7, hk7⟩)
                | (go_at_call 25; refine (HRU.out _ H7).mono ?_; rintro e W8 ⟨rfl, H8, hk8⟩))
              simp only [headQ]
              have HK8 := (((HK.trans (Kept.of_below hb3)).trans hk6).trans hk7).trans hk8
              have e0 := HWC.out W8 HK8 0 (by decide)
              have e1 := HWC.out W8 HK8 1 (by decide)
              have e2 := HWC.out W8 HK8 2 (by decide)
              have e3 := HWC.out W8 HK8 3 (by decide)
              have e4 := HWC.out W8 HK8 4 (by decide)
              have e5 := HWC.out W8 HK8 5 (by decide)
              have e6 := HWC.out W8 HK8 6 (by decide)
              have e7 := HWC.out W8 HK8 7 (by decide)
              have e8 := HWC.out W8 HK8 8 (by decide)
              have e9 := HWC.out W8 HK8 9 (by decide)
              simp only [List.getElem?_cons_zero, List.getElem?_cons_succ, Nat.add_zero] at e0 e1 e2 e3 e4 e5 e6 e7 e8 e9
              have re0 := fun dd os => cell_regrown e0 dd os
              have re1 := fun dd os => cell_regrown e1 dd os
              have re2 := fun dd os => cell_regrown e2 dd os
              have re3 := fun dd os => cell_regrown e3 dd os
              have re4 := fun dd os => cell_regrown e4 dd os
              have re5 := fun dd os => cell_regrown e5 dd os
              have re6 := fun dd os => cell_regrown e6 dd os
              have re7 := fun dd os => cell_regrown e7 dd os
              have re8 := fun dd os => cell_regrown e8 dd os
              have re9 := fun dd os => cell_regrown e9 dd os
              refine ⟨fun w' => ∃ p : Regrown, w' = grow (redrawn W8 p.d) p.os, reg_self W8, ?_⟩
              repeat (first | go_big_quiet_step (exact Calls.regrown_of (HLK2.out _ (H8.regrown _ _))) | quiet_step (fail))
              refine wpQuiet_nil ?_
              rintro _ ⟨q9, rfl⟩
              have hb9 := below_regrown W8 q9.d q9.os
              generalize grow (redrawn W8 q9.d) q9.os = w9 at *
              clear e0 e1 e2 e3 e4 e5 e6 e7 e8 e9 re0 re1 re2 re3 re4 re5 re6 re7 re8 re9
              have H9 := H8.below hb9
              go_wp2_with (first
                | (go_at_call 26; with_reducible refine (HRR.out _ H9).mono ?_; rintro e W10 ⟨rfl, H10, hk10⟩)
                | (go_at_call 26; with_reducible refine (HR6.out _ H10).mono ?_; rintro e W11 ⟨rfl, H11, hk11⟩))
              simp only [headQ]
              go_wp2_with fail
              go_ret
              exact ⟨rfl, HB3.out.trans ((below_keptG HBE.out (((HK8.trans (Kept.of_below hb9)).trans hk10).trans hk11) HGW.out).mono hwl)⟩
            · by_cases hq0 : 0 < q
              · have hev0 : bk0 % 2 ≠ 0 := fun e => hAB ⟨hq0, e⟩
                have hq1 : decide ((q : Int) > 0) = true := by rw [decide_eq_true_eq]; omega
                have hq2 : decide (0 < q) = true := decide_eq_true hq0
                have hev : ((bk0 : Int) % 2 == 0) = false := by rw [beq_eq_false_iff_ne]; omega
                clear hAB hj hev0
                go_wp2_with fail
                go_loopw [148] (fun v wq => ∃ r : Nat, r ≤ q ∧ v = .int .i64 (r : Int) ∧ InP wq B (p.at (j + r) (p.bk (j + r))) G ∧ Kept G wE wq) (fun v _ => q - (intOf v).toNat)
                case atStart => exact ⟨0, by omega, rfl, H, HK⟩
                case round =>
                  clear H HK
                  obtain ⟨r, hr, rfl, H, HK⟩ := hrel
                  by_cases hrq : r < q
                  · have hjl3 : j + r < p.steps.length := by rw [HI.out]; omega
                    have hx := List.getElem?_eq_getElem hjl3
                    have hrd : (p.at (j + r) (p.bk (j + r))).redoV = (0, p.at (j + r + 1) (p.bk (j + r + 1))) := by
                      rw [bk_succ p hx]; exact at_redo HHI.out hx _
                    have hun := in_redo (H.below ((Below.refl _ _).drew))
                    rw [hrd] at hun
                    obtain ⟨T2, hT2⟩ : ∃ T2, (p.at (j + r + 1) []).tld = T2 := ⟨_, rfl⟩
                    have hlk := fun (W' : World) (h : InP W' B (p.at (j + r + 1) (p.bk (j + r + 1))) G) => HLK.out _ W' _ h
                    rw [tld_at, hT2] at hlk
                    have hwlj := wl_get p (i := j + r + 1) (by omega)
                    rw [hT2] at hwlj
                    obtain ⟨jr, hjr⟩ : ∃ jr, j + r + 1 = jr := ⟨_, rfl⟩
                    rw [hjr] at hwlj hun hlk
                    have HWC := Lib.hid (fun (W' : World) (hk : Kept G wE W') (cc : Nat) (hc : cc < 10) => (Owns.cell (OwnT.keptG HOE.out (fun g' e => by obtain rfl : g = g' := (by simpa [Value.ownBlock] using e); exact hgE) hk) jr cc hc hwlj : W'.cell? ⟨g, jr * 10 + cc, none⟩ = T2.cs[cc]?))
                    have hjm : (i : Int) - (q : Int) + 1 + (r : Int) = (jr : Int) := by omega
                    have hjI : (jr : Int) < (i : Int) + 1 := by omega
                    have hjN : jr < i + 1 := by omega
                    have heq := fun w' => eq_told T2 w'
                    dsimp only [Tld.cells] at heq hlk
                    have HUN := Lib.hid hun
                    have HLK2 := Lib.hid hlk
                    have HJR : Hid (j + (r + 1) = jr) := Lib.hid (by omega)
                    clear hjl3 hx hrd hun hlk hwlj hT2 hjr
                    go_upto_region 32 with fail
                    refine wp_region_seg [(false, 4), (true, 13)] (by kernel_rfl) (by kernel_rfl) ?_
                    simp only [segP, List.take_succ_cons, List.take_zero, List.drop_succ_cons, List.drop_zero]
                    go_wp2_with (go_at_call 26; refine HUN.out.mono ?_; rintro e W7 ⟨rfl, H7, hk7⟩)
                    have HK7 := HK.drew.trans hk7
                    have e0 := HWC.out W7 HK7 0 (by decide)
                    have e1 := HWC.out W7 HK7 1 (by decide)
                    have e2 := HWC.out W7 HK7 2 (by decide)
                    have e3 := HWC.out W7 HK7 3 (by decide)
                    have e4 := HWC.out W7 HK7 4 (by decide)
                    have e5 := HWC.out W7 HK7 5 (by decide)
                    have e6 := HWC.out W7 HK7 6 (by decide)
                    have e7 := HWC.out W7 HK7 7 (by decide)
                    have e8 := HWC.out W7 HK7 8 (by decide)
                    have e9 := HWC.out W7 HK7 9 (by decide)
                    simp only [List.getElem?_cons_zero, List.getElem?_cons_succ, Nat.add_zero] at e0 e1 e2 e3 e4 e5 e6 e7 e8 e9
                    have re0 := fun dd os => cell_regrown e0 dd os
                    have re1 := fun dd os => cell_regrown e1 dd os
                    have re2 := fun dd os => cell_regrown e2 dd os
                    have re3 := fun dd os => cell_regrown e3 dd os
                    have re4 := fun dd os => cell_regrown e4 dd os
                    have re5 := fun dd os => cell_regrown e5 dd os
                    have re6 := fun dd os => cell_regrown e6 dd os
                    have re7 := fun dd os => cell_regrown e7 dd os
                    have re8 := fun dd os => cell_regrown e8 dd os
                    have re9 := fun dd os => cell_regrown e9 dd os
                    have hw1 : IntKind.i64.wrap ((i : Int) - (q : Int)) = (i : Int) - (q : Int) := IntWalk.i64_in _ (by omega)
                    have hw2 : IntKind.i64.wrap ((i : Int) - (q : Int) + 1) = (i : Int) - (q : Int) + 1 := IntWalk.i64_in _ (by omega)
                    have hw3 : IntKind.i64.wrap ((i : Int) - (q : Int) + 1 + (r : Int)) = (jr : Int) := by rw [IntWalk.i64_in _ (by omega)]; exact hjm
                    simp only [headQ]
                    refine ⟨fun w' => ∃ p : Regrown, w' = grow (redrawn W7 p.d) p.os, reg_self W7, ?_⟩
                    repeat (first | go_big_quiet_step (exact Calls.regrown_of (HLK2.out _ (H7.regrown _ _))) | quiet_step (fail))
                    refine wpQuiet_nil ?_
                    rintro _ ⟨qq, rfl⟩
                    have hb9 := below_regrown W7 qq.d qq.os
                    generalize grow (redrawn W7 qq.d) qq.os = w9 at *
                    clear e0 e1 e2 e3 e4 e5 e6 e7 e8 e9 re0 re1 re2 re3 re4 re5 re6 re7 re8 re9 hw1 hw2 hw3
                    go_wp2_with fail
                    go_roundw
                    case rel => exact ⟨r + 1, by omega, by go_num, by rw [HJR.out]; exact H7.below hb9, HK7.trans (Kept.of_below hb9)⟩
                    case measure => simp [intOf]; omega
                  · have hre : r = q := by omega
                    subst hre
                    have hbn : p.bk (j + r) = [] := by rw [hji, ← HI.out]; exact bk_full p
                    rw [hbn] at H
                    have hun := in_redo H
                    rw [at_redo0] at hun
                    have HUN := Lib.hid hun
                    clear hun hbn
                    go_wp2_with (go_at_call 26; refine HUN.out.mono ?_; rintro e W7 ⟨rfl, H7, hk7⟩)
                    go_ret
                    exact ⟨rfl, HB3.out.trans ((below_keptG HBE.out (HK.trans hk7) HGW.out).mono hwl)⟩
              · have hq1 : decide ((q : Int) > 0) = false := by rw [decide_eq_false_iff_not]; omega
                have hq2 : decide (0 < q) = false := decide_eq_false hq0
                clear hAB hj
                go_wp2_with fail
                go_loopw [148] (fun v wq => ∃ r : Nat, r ≤ q ∧ v = .int .i64 (r : Int) ∧ InP wq B (p.at (j + r) (p.bk (j + r))) G ∧ Kept G wE wq) (fun v _ => q - (intOf v).toNat)
                case atStart => exact ⟨0, by omega, rfl, H, HK⟩
                case round =>
                  clear H HK
                  obtain ⟨r, hr, rfl, H, HK⟩ := hrel
                  by_cases hrq : r < q
                  · have hjl3 : j + r < p.steps.length := by rw [HI.out]; omega
                    have hx := List.getElem?_eq_getElem hjl3
                    have hrd : (p.at (j + r) (p.bk (j + r))).redoV = (0, p.at (j + r + 1) (p.bk (j + r + 1))) := by
                      rw [bk_succ p hx]; exact at_redo HHI.out hx _
                    have hun := in_redo (H.below ((Below.refl _ _).drew))
                    rw [hrd] at hun
                    obtain ⟨T2, hT2⟩ : ∃ T2, (p.at (j + r + 1) []).tld = T2 := ⟨_, rfl⟩
                    have hlk := fun (W' : World) (h : InP W' B (p.at (j + r + 1) (p.bk (j + r + 1))) G) => HLK.out _ W' _ h
                    rw [tld_at, hT2] at hlk
                    have hwlj := wl_get p (i := j + r + 1) (by omega)
                    rw [hT2] at hwlj
                    obtain ⟨jr, hjr⟩ : ∃ jr, j + r + 1 = jr := ⟨_, rfl⟩
                    rw [hjr] at hwlj hun hlk
                    have HWC := Lib.hid (fun (W' : World) (hk : Kept G wE W') (cc : Nat) (hc : cc < 10) => (Owns.cell (OwnT.keptG HOE.out (fun g' e => by obtain rfl : g = g' := (by simpa [Value.ownBlock] using e); exact hgE) hk) jr cc hc hwlj : W'.cell? ⟨g, jr * 10 + cc, none⟩ = T2.cs[cc]?))
                    have hjm : (i : Int) - (q : Int) + 1 + (r : Int) = (jr : Int) := by omega
                    have hjI : (jr : Int) < (i : Int) + 1 := by omega
                    have hjN : jr < i + 1 := by omega
                    have heq := fun w' => eq_told T2 w'
                    dsimp only [Tld.cells] at heq hlk
                    have HUN := Lib.hid hun
                    have HLK2 := Lib.hid hlk
                    have HJR : Hid (j + (r + 1) = jr) := Lib.hid (by omega)
                    clear hjl3 hx hrd hun hlk hwlj hT2 hjr
                    go_upto_region 32 with fail
                    refine wp_region_seg [(false, 4), (true, 13)] (by kernel_rfl) (by kernel_rfl) ?_
                    simp only [segP, List.take_succ_cons, List.take_zero, List.drop_succ_cons, List.drop_zero]
                    go_wp2_with (go_at_call 26; refine HUN.out.mono ?_; rintro e W7 ⟨rfl, H7, hk7⟩)
                    have HK7 := HK.drew.trans hk7
                    have e0 := HWC.out W7 HK7 0 (by decide)
                    have e1 := HWC.out W7 HK7 1 (by decide)
                    have e2 := HWC.out W7 HK7 2 (by decide)
                    have e3 := HWC.out W7 HK7 3 (by decide)
                    have e4 := HWC.out W7 HK7 4 (by decide)
                    have e5 := HWC.out W7 HK7 5 (by decide)
                    have e6 := HWC.out W7 HK7 6 (by decide)
                    have e7 := HWC.out W7 HK7 7 (by decide)
                    have e8 := HWC.out W7 HK7 8 (by decide)
                    have e9 := HWC.out W7 HK7 9 (by decide)
                    simp only [List.getElem?_cons_zero, List.getElem?_cons_succ, Nat.add_zero] at e0 e1 e2 e3 e4 e5 e6 e7 e8 e9
                    have re0 := fun dd os => cell_regrown e0 dd os
                    have re1 := fun dd os => cell_regrown e1 dd os
                    have re2 := fun dd os => cell_regrown e2 dd os
                    have re3 := fun dd os => cell_regrown e3 dd os
                    have re4 := fun dd os => cell_regrown e4 dd os
                    have re5 := fun dd os => cell_regrown e5 dd os
                    have re6 := fun dd os => cell_regrown e6 dd os
                    have re7 := fun dd os => cell_regrown e7 dd os
                    have re8 := fun dd os => cell_regrown e8 dd os
                    have re9 := fun dd os => cell_regrown e9 dd os
                    have hw1 : IntKind.i64.wrap ((i : Int) - (q : Int)) = (i : Int) - (q : Int) := IntWalk.i64_in _ (by omega)
                    have hw2 : IntKind.i64.wrap ((i : Int) - (q : Int) + 1) = (i : Int) - (q : Int) + 1 := IntWalk.i64_in _ (by omega)
                    have hw3 : IntKind.i64.wrap ((i : Int) - (q : Int) + 1 + (r : Int)) = (jr : Int) := by rw [IntWalk.i64_in _ (by omega)]; exact hjm
                    simp only [headQ]
                    refine ⟨fun w' => ∃ p : Regrown, w' = grow (redrawn W7 p.d) p.os, reg_self W7, ?_⟩
                    repeat (first | go_big_quiet_step (exact Calls.regrown_of (HLK2.out _ (H7.regrown _ _))) | quiet_step (fail))
                    refine wpQuiet_nil ?_
                    rintro _ ⟨qq, rfl⟩
                    have hb9 := below_regrown W7 qq.d qq.os
                    generalize grow (redrawn W7 qq.d) qq.os = w9 at *
                    clear e0 e1 e2 e3 e4 e5 e6 e7 e8 e9 re0 re1 re2 re3 re4 re5 re6 re7 re8 re9 hw1 hw2 hw3
                    go_wp2_with fail
                    go_roundw
                    case rel => exact ⟨r + 1, by omega, by go_num, by rw [HJR.out]; exact H7.below hb9, HK7.trans (Kept.of_below hb9)⟩
                    case measure => simp [intOf]; omega
                  · have hre : r = q := by omega
                    subst hre
                    have hbn : p.bk (j + r) = [] := by rw [hji, ← HI.out]; exact bk_full p
                    rw [hbn] at H
                    have hun := in_redo H
                    rw [at_redo0] at hun
                    have HUN := Lib.hid hun
                    clear hun hbn
                    go_wp2_with (go_at_call 26; refine HUN.out.mono ?_; rintro e W7 ⟨rfl, H7, hk7⟩)
                    go_ret
                    exact ⟨rfl, HB3.out.trans ((below_keptG HBE.out (HK.trans hk7) HGW.out).mono hwl)⟩
theorem law_PlayBack (a : Option Addr) (len cap : Nat) (zs : List Nat) (n c : Nat) (a2 : Option Addr) (len2 cap2 : Nat) (zs2 : List Nat) (bk0 : Nat) (w : World) (hz : Byt w a len zs) (hn : n < 256) (hc : c < 256) (hz2 : Byt w a2 len2 zs2) (hb : bk0 < 256) (hT : Tab w) :
    Calls Tryd.prog 7 #[.slice a len cap, .int .u8 (n : Int), .int .u8 (c : Int), .slice a2 len2 cap2, .int .u8 (bk0 : Int)] w fun e w' => e = .returned (.bool true) ∧ Below w.heap.size w w' :=
  pb_all ⟨zs, n, c⟩ a len cap bk0 a2 len2 cap2 zs2 w hz hz2 hn hc hb hT
end Go.Proofs.YtginbellakkliaaDoor
