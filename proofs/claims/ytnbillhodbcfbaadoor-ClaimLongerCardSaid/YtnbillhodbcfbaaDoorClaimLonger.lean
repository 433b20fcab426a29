/- ClaimLonger over this seat's program. -/
import Derived.Test.YtnbillhodbcfbaaDoorMCls
namespace Go.Proofs.YtnbillhodbcfbaaDoor
open Go.RowKit Go.Sort Go.Shelf Go.Maps Go.WideMaps

/-- the block that the line is put into -/
def LgU (w1 : World) (k : Nat) (us : List Value) (W : World) : Prop := match us with
  | [] => True
  | [p] => ∃ b, p = .pointer (some ⟨b, 0, none⟩) ∧ w1.heap.size ≤ b ∧ (k < 6 → Row W b 44 #[.int .u8 0, .int .i64 0, .slice none 0 0])
  | _ => False
/-- between the operations that put a line together -/
def LgS (w1 : World) (sd : Nat) (b1 b2 b3 : List Nat) (vs us : List Value) (W : World) : Prop := Below w1.heap.size w1 W ∧ LgU w1 vs.length us W ∧ match vs with
  | [] => True
  | [v] => OwnU W w1.heap.size v []
  | [_, v] => OwnU W w1.heap.size v b1
  | [_, _, v] => OwnU W w1.heap.size v (b1 ++ b2)
  | [_, _, _, v] => OwnU W w1.heap.size v (b1 ++ b2 ++ b3)
  | [_, _, _, v, g] => OwnU W w1.heap.size v (b1 ++ b2 ++ b3) ∧ g = .agg (cmA sd 0 v)
  | [_, _, _, v, _, _] => OwnU W w1.heap.size v (b1 ++ b2 ++ b3) ∧ ∃ b, us = [.pointer (some ⟨b, 0, none⟩)] ∧ w1.heap.size ≤ b ∧ Row W b 44 (cmA sd 0 v)
  | _ => False
theorem LgU.us {w1 W W' : World} {us : List Value} {k : Nat} {u : Value} {l : List Nat} (hu : OwnU W w1.heap.size u l) (hg : W.grownBy W' u.ownBlock) (hl : k < 6) (h : LgU w1 k us W) (k' : Nat) : LgU w1 k' us W' := by
  match us, h with
  | [], _ => trivial
  | [p], ⟨b, e, h1, h2⟩ =>
    refine ⟨b, e, h1, fun _ => ?_⟩
    have hr := h2 hl
    obtain ⟨-, -, -, -, h5⟩ := hg
    exact hr.same (h5 b hr.lt (own_apart hu hr (by decide)))
theorem LgU.usA {w1 W : World} {us : List Value} {k : Nat} (h : LgU w1 k us W) (hl : k < 6) (k' : Nat) (x : Obj) : LgU w1 k' us (W.alloc x) := by
  match us, h with
  | [], _ => trivial
  | [p], ⟨b, e, h1, h2⟩ => exact ⟨b, e, h1, fun _ => (h2 hl).alloc x⟩
theorem LgU.usS {w1 W : World} {us : List Value} {k : Nat} (h : LgU w1 k us W) (hl : k < 6) (k' : Nat) : LgU w1 k' us W := by
  match us, h with
  | [], _ => trivial
  | [p], ⟨b, e, h1, h2⟩ => exact ⟨b, e, h1, fun _ => h2 hl⟩
theorem LgS.al {w1 W : World} {sd : Nat} {b1 b2 b3 : List Nat} {vs : List Value} (h : LgS w1 sd b1 b2 b3 vs [] W) : LgS w1 sd b1 b2 b3 vs [.pointer (some ⟨W.heap.size, 0, none⟩)] (W.alloc (.cells #[.int .u8 0, .int .i64 0, .slice none 0 0] 44)) := by
  obtain ⟨hb, -, hv⟩ := h
  refine ⟨hb.alloc hb.size _, ⟨_, rfl, hb.size, fun _ => Row.new W _ _⟩, ?_⟩
  match vs, hv with
  | [], _ => trivial
  | [_], h => exact h.alloc _
  | [_, _], h => exact h.alloc _
  | [_, _, _], h => exact h.alloc _
  | [_, _, _, _], h => exact h.alloc _
  | [_, _, _, _, _], ⟨h, e⟩ => exact ⟨h.alloc _, e⟩
  | [_, _, _, _, _, _], ⟨_, _, e, _⟩ => cases e
theorem OwnU.bytX {W : World} {base n c : Nat} {a : Option Addr} {l : List Nat} (h : OwnU W base (.slice a n c) l) (h24 : l.length ≤ 24) (hn : l.length = n) (h52 : ∀ y ∈ l, y < 52) : Byt W a n l := by
  obtain ⟨a', c', e, h1, -⟩ := LnM.of_own h (by omega) h52
  injection e with e1 e2 e3
  rw [e1, ← hn]
  exact h1
theorem grownBy_rowX (W : World) (g : Nat) (cs : Array Value) : W.grownBy (W.setRow g cs) (some g) :=
  ⟨rfl, rfl, rfl, Nat.le_of_eq (size_setRow _ _ _).symm, fun k _ hne => setRow_other _ _ _ _ fun e => hne (by rw [e])⟩
theorem agL_52 (sd tr : Nat) (ln : List Nat) : ∀ (n q : Nat) (t : Tb), TbG q t → n + t.cs.length = 4 * q → q ≤ 4 → ∀ y ∈ agL sd tr ln n t, y < 52
  | 0, _, _, _, _, _, y, hy => by cases hy
  | n + 1, q, t, hg, hm, hq, y, hy => by
    have hlg := agC_legal (sd := sd) (tr := tr) hg hm hq ln
    obtain ⟨q', hg', hq', hm'⟩ := hg.put tr hlg hm
    rcases List.mem_cons.1 (show y ∈ agC sd tr ln n t :: agL sd tr ln n (t.put tr (agC sd tr ln n t)).1 from hy) with rfl | h
    · exact (mem_cards.1 (cards_pk hg.ok.pk hlg)).1
    · exact agL_52 sd tr ln n q' _ hg' hm' (by omega) y h
theorem list6 {l : List Value} {x : Value} (h : l.length ≤ 6) (hx : l[5]? = some x) : ∃ y z u v t, l = [y, z, u, v, t, x] := by
  match l, h, hx with
  | [y, z, u, v, t, s], _, hx => exact ⟨y, z, u, v, t, by rw [Option.some.inj (show some s = some x from hx)]⟩
theorem filter_step (P : Nat → Bool) (l : List Nat) {j : Nat} (hj : j < l.length) : (l.take (j + 1)).filter P = (l.take j).filter P ++ (if P (l.getD j 0) then [l.getD j 0] else []) := by
  have e : l.getD j 0 = l[j] := by rw [List.getD_eq_getElem?_getD, List.getElem?_eq_getElem hj]; rfl
  rw [List.take_add_one, List.getElem?_eq_getElem hj, List.filter_append, e]
  congr 1
  show List.filter P [l[j]] = _
  by_cases h : P l[j] = true
  · rw [List.filter_cons_of_pos h, if_pos h]; rfl
  · rw [List.filter_cons_of_neg h, if_neg h]; rfl
set_option maxHeartbeats 4000000 in
set_option maxRecDepth 10000 in
theorem law_ClaimLonger (a : Option Addr) (len cap : Nat) (zs : List Nat) (n tr ld side : Nat) (a2 : Option Addr) (len2 cap2 : Nat) (zs2 : List Nat) (w : World) (hz : Byt w a len zs) (hn : n < 256) (htr : tr < 256) (hld : ld < 256) (hsi : side < 256) (hz2 : Byt w a2 len2 zs2) (hT : Tab w) :
    Calls Tryd.prog 8 #[.slice a len cap, .int .u8 (n : Int), .int .u8 (tr : Int), .int .u8 (ld : Int), .int .u8 (side : Int), .slice a2 len2 cap2] w fun e w' => e = .returned (.bool true) ∧ Below w.heap.size w w' := by
  have HT := Lib.hid hT
  have HZ2 := Lib.hid hz2
  have HDE := Lib.hid (dm_Dealt a len cap zs n tr ld 3 hn htr hld (by decide) w hz)
  have hq4 : n % (3 + 1) ≤ 4 := by omega
  have hq3 : n % (3 + 1) ≤ 3 := by omega
  have ht5 : tr % 5 < 5 := by omega
  have hl4 : ld % 4 < 4 := by omega
  have hs2 : side % 2 < 2 := by omega
  obtain ⟨q, hq⟩ : ∃ q, n % (3 + 1) = q := ⟨_, rfl⟩
  obtain ⟨t5, htt⟩ : ∃ q, tr % 5 = q := ⟨_, rfl⟩
  obtain ⟨l4, hll⟩ : ∃ q, ld % 4 = q := ⟨_, rfl⟩
  obtain ⟨sd, hsd⟩ : ∃ q, side % 2 = q := ⟨_, rfl⟩
  rw [hq, htt, hll] at HDE
  rw [hq] at hq4 hq3
  rw [htt] at ht5
  rw [hll] at hl4
  rw [hsd] at hs2
  have hnq : (n : Int) % 4 = (q : Int) := by omega
  have hnt : (n : Int).tmod 4 = (q : Int) := by rw [Int.tmod_eq_emod_of_nonneg (by omega)]; omega
  have hs1 : (side : Int) % 2 = (sd : Int) := by omega
  have hst : (side : Int).tmod 2 = (sd : Int) := by rw [Int.tmod_eq_emod_of_nonneg (by omega)]; omega
  have hsw : IntKind.u8.wrap (sd : Int) = (sd : Int) := by rw [IntKind.wrap_u8]; omega
  simp only [show ((3 : Nat) : Int) = 3 from rfl] at HDE
  clear hq htt hll hz hT hsd hz2
  have HNQ := Lib.hid (And.intro hnq hnt)
  clear hnq hnt
  go_enter Tryd.func8, Tryd.ntmps8
  go_upto_region 1 with fail
  go_wp2_with fail
  refine HDE.out.mono ?_
  rintro e w1 ⟨h, hD, rfl, hb1⟩
  obtain ⟨hrt, hRP⟩ := dealt_all hD hq4 ht5 hl4
  have HPZ : Hid ((posA h t5 l4 (.slice none 0 0)).size = 7 ∧ (posA h t5 l4 (.slice none 0 0)).all (·.oneCell') = true) := Lib.hid ⟨rfl, by simp [posA, Value.oneCell']⟩
  have HTG := Lib.hid (show TbG q ⟨h, l4, []⟩ from ⟨hRP.ok, hRP.uniq, hRP.evn⟩)
  have HC0 : Hid (∀ i, i < 4 → (posA h t5 l4 (.slice none 0 0))[i]? = some (.int .u64 (h i : Int))) := Lib.hid (fun i hi => by
    rcases (show i = 0 ∨ i = 1 ∨ i = 2 ∨ i = 3 by omega) with rfl | rfl | rfl | rfl <;> rfl)
  have HSU := Lib.hid (fun (ln : List Nat) (h52 : ∀ y ∈ ln, y < 52) (hc : claimB sd 0 ln q = true) W (hT : Tab W) la lcap (hl : Byt W la ln.length ln) hln => cl_Sure_ok h t5 l4 [] none 0 sd 0 ln la lcap hD.w64 (by omega) (by omega) hs2 W (ch_nil W) hl hln hT q (hD.turn l4) hq4 hrt hc h52)
  have HAG := Lib.hid (fun (ln : List Nat) (h52 : ∀ y ∈ ln, y < 52) (hc : claimB sd 0 ln q = true) W (hT : Tab W) la lcap (hl : Byt W la ln.length ln) hln => cl_Against_ok h t5 l4 [] none 0 sd 0 ln la lcap hD.w64 (by omega) (by omega) hs2 W (ch_nil W) hl hln hT q (hD.turn l4) hq4 hrt hc h52)
  obtain ⟨o, ho⟩ : ∃ o, lor (h sd) (h (sd + 2)) = o := ⟨_, rfl⟩
  have HOW : Hid (W64 o) := Lib.hid (by rw [← ho]; exact W64.lor (hD.w64 _) (hD.w64 _))
  have HOR := Lib.hid (run_or64 (h sd) (h (sd + 2)) (hD.w64 _) (hD.w64 _))
  rw [ho] at HOR
  have HSP : Hid (SideP sd (fun c => o.testBit c) ⟨h, l4, []⟩) := Lib.hid (by
    intro s c hs ho2
    obtain ⟨h4, h5 | ⟨i, h5, -⟩⟩ := ho2
    · rcases (show s = sd ∨ s = sd + 2 by omega) with rfl | rfl
      · show o.testBit c = true
        rw [← ho, testBit_lor, h5]; rfl
      · show o.testBit c = true
        rw [← ho, testBit_lor, h5, Bool.or_true]
    · cases h5)
  obtain ⟨PA, hPA⟩ : ∃ A, posA h t5 l4 (.slice none 0 0) = A := ⟨_, rfl⟩
  have hPA' : posA h t5 l4 (.slice none ([] : List Nat).length 0) = PA := hPA
  rw [hPA] at HPZ HC0 ⊢
  simp only [hPA'] at HSU HAG
  clear hPA' hD hrt hRP ho
  have HN := Lib.hid (Row.new w1 27 zeroP)
  have ha := below_setRow ((Below.refl w1.heap.size w1).alloc (Nat.le_refl _) (.cells zeroP 27)) (Nat.le_refl _) PA
  have HR := Lib.hid (show Row ((w1.alloc (.cells zeroP 27)).setRow w1.heap.size PA) w1.heap.size 27 PA from setRow_heap _ _ _ _ _ _ HN.out)
  have HB := Lib.hid (hb1.trans (ha.mono hb1.size))
  clear hb1 ha hPA
  go_upto_region 2 with (refine wpList_store_row rfl 27 (.tmp 13) (.tmp 35) rfl w1.heap.size PA rfl rfl 27 _ HN.out (by rw [HPZ.out.1]; exact size_pos) (by rw [HPZ.out.1]; rfl) HPZ.out.2 ?_)
  generalize (w1.alloc (.cells zeroP 27)).setRow w1.heap.size PA = w2 at *
  obtain ⟨bp, hbp⟩ : ∃ b, w1.heap.size = b := ⟨_, rfl⟩
  rw [hbp] at HR ⊢
  clear hbp HN
  have hsi2 : (sd : Int) + 2 < 4 := by omega
  have cA : w2.cell? ⟨bp, sd, none⟩ = some (.int .u64 (h sd : Int)) := (HR.out.cell sd).trans (HC0.out sd (by omega))
  have cB : w2.cell? ⟨bp, sd + 2, none⟩ = some (.int .u64 (h (sd + 2) : Int)) := (HR.out.cell _).trans (HC0.out _ (by omega))
  have rA := fun dd os => cell_regrown cA dd os
  have rB := fun dd os => cell_regrown cB dd os
  have hor := HOR.out
  have hw2 : IntKind.u8.wrap ((sd : Int) + 2) = ((sd + 2 : Nat) : Int) := by rw [IntKind.wrap_u8]; omega
  go_upto_region 3 with fail
  clear cA cB
  refine wp_region_quiet_below (by kernel_rfl) (by kernel_rfl) ?_
  repeat (first
    | go_big_quiet_step (fail)
    | quiet_step (fail))
  refine wpQuiet_nil ?_
  rintro _ ⟨qq, rfl⟩
  have hbq := below_regrown w2 qq.d qq.os
  have HR3 := Lib.hid (HR.out.later hbq)
  have HB3 := Lib.hid (HB.out.trans (hbq.mono HB.out.size))
  clear hbq HR HB rA rB hor hw2 hsi2
  generalize grow (redrawn w2 qq.d) qq.os = w3 at *
  go_upto_region 5 with fail
  go_wp2_with fail
  refine (law16_lined a2 len2 cap2 zs2 w3 (HZ2.out.below (Nat.le_refl _) HB3.out)).mono ?_
  rintro e w4 ⟨v, rfl, hown, hb⟩
  obtain ⟨la, lcap, rfl, hlB, hlN⟩ := LnM.lnd hown
  have HLN := Lib.hid hlB
  have HL24 := Lib.hid (lnd_ok zs2)
  have HND := Lib.hid (lnd_nodup zs2)
  have HR4 := Lib.hid (HR3.out.later hb)
  have HB4 := Lib.hid (HB3.out.trans (hb.mono HB3.out.size))
  clear hb hown hlB hlN HR3 HB3
  obtain ⟨l, hl⟩ : ∃ z, lnd zs2 = z := ⟨_, rfl⟩
  rw [hl] at HLN HL24 HND ⊢
  obtain ⟨nl, hnl⟩ : ∃ z, l.length = z := ⟨_, rfl⟩
  have HNL := Lib.hid hnl
  rw [hnl] at HLN ⊢
  clear hl hnl
  have HW4 := Lib.hid HB4.out.size
  go_upto_region 6 with fail
  try dsimp only [Act.put]
  go_loopg [16, 17, 51] nl (fun g u v kv wr => ∃ (j : Nat), g = nl - j ∧ j ≤ nl ∧ kv = .int .i64 (j : Int) ∧ OwnU wr w4.heap.size u ((l.take j).filter fun c => o.testBit c) ∧ OwnU wr w4.heap.size v ((l.take j).filter fun c => !o.testBit c) ∧ Apt u v ∧ Below w4.heap.size w4 wr)
  case atStart => exact ⟨0, rfl, by omega, rfl, Owns.nil encU_len _ _, Owns.nil encU_len _ _, (fun g h => by cases h), Below.refl _ _⟩
  case round =>
    obtain ⟨j, rfl, hj, rfl, h16, h17, hap, hb⟩ := hrel
    have H16 := Lib.hid h16
    have H17 := Lib.hid h17
    have HAP := Lib.hid hap
    have HA5 := Lib.hid hb
    clear h16 h17 hap hb
    by_cases hlt : j < nl
    · have hdk : decide (j < nl) = true := by simp; omega
      have HZr := Lib.hid (HLN.out.below (Nat.le_refl _) HA5.out)
      obtain ⟨bb, off, hae, hbl, hcells⟩ := HZr.out.at (by omega)
      have ek := hcells j hlt
      have HST1 := Lib.hid (filter_step (fun c => o.testBit c) l (j := j) (by rw [HNL.out]; exact hlt))
      have HST2 := Lib.hid (filter_step (fun c => !o.testBit c) l (j := j) (by rw [HNL.out]; exact hlt))
      have hx : l.getD j 0 < 52 := HL24.out.2.2 _ (by rw [List.getD_eq_getElem?_getD, List.getElem?_eq_getElem (show j < l.length by rw [HNL.out]; exact hlt)]; exact List.getElem_mem _)
      obtain ⟨c, hc⟩ : ∃ c, l.getD j 0 = c := ⟨_, rfl⟩
      rw [hc] at ek hx HST1 HST2
      have hpw := HOW.out
      have hsr := run_shr64 o c .u8 hpw
      have hba := run_bit64 o c hpw
      have HC := Lib.hid hx
      have HN24 : Hid (nl ≤ 24) := Lib.hid (by have := HL24.out.2.1; rw [HNL.out] at this; exact this)
      have hn24 : nl ≤ 24 := HN24.out
      have HLF1 : Hid (((l.take j).filter fun c => o.testBit c).length ≤ 24) := Lib.hid (Nat.le_trans (List.length_filter_le _ _) (by rw [List.length_take, HNL.out]; have := HN24.out; omega))
      have HLF2 : Hid (((l.take j).filter fun c => !o.testBit c).length ≤ 24) := Lib.hid (Nat.le_trans (List.length_filter_le _ _) (by rw [List.length_take, HNL.out]; have := HN24.out; omega))
      clear hc hcells hbl
      subst hae
      obtain ⟨F1, hF1⟩ : ∃ z, ((l.take j).filter fun c => o.testBit c) = z := ⟨_, rfl⟩
      obtain ⟨F2, hF2⟩ : ∃ z, ((l.take j).filter fun c => !o.testBit c) = z := ⟨_, rfl⟩
      rw [hF1] at H16 HLF1 HST1
      rw [hF2] at H17 HLF2 HST2
      clear hF1 hF2
      cases hbt : o.testBit c
      · have hbi : ((bitAt o c : Nat) : Int) = 0 := by rw [bitAt_eq, hbt]; rfl
        have HE1 : Hid ((l.take (j + 1)).filter (fun c => o.testBit c) = F1) := Lib.hid (by rw [HST1.out, hbt]; exact List.append_nil _)
        have HE2 : Hid ((l.take (j + 1)).filter (fun c => !o.testBit c) = F2 ++ [c]) := Lib.hid (by rw [HST2.out, hbt]; rfl)
        go_upto_region 10 with fail
        go_wp2_with (at_builtin; refine appU rfl (.tmp 64) (.tmp 66) rfl w4.heap.size _ F2 [c] rfl (H17.out.alloc _) _ _ _ rfl (byt_new1 wr c (by have := HC.out; omega)) (by have := HLF2.out; omega) (by rw [World.size_alloc]; have := HA5.out.size; omega) ?_; intro v2 w10 hown10 hb10 hg10 hnb10)
        have HO10 := Lib.hid hown10
        have H16b := Lib.hid (Owns.kept (H16.out.alloc (.cells #[.int .u8 (c : Int)] 5)) hg10 HAP.out.symm.row)
        have HAP2 := Lib.hid (HAP.out.symm.app (H16.out.alloc (.cells #[.int .u8 (c : Int)] 5)) hnb10).symm
        have HA10 := Lib.hid (HA5.out.trans (((Below.refl w4.heap.size wr).alloc HA5.out.size (.cells #[.int .u8 (c : Int)] 5)).trans hb10))
        clear hown10 hb10 hg10 hnb10
        go_roundg (nl - (j + 1))
        case measure => omega
        case rel => exact ⟨j + 1, rfl, by omega, by go_num, by rw [HE1.out]; exact H16b.out, by rw [HE2.out]; exact HO10.out, HAP2.out, HA10.out⟩
      · have hbi : ((bitAt o c : Nat) : Int) = 1 := by rw [bitAt_eq, hbt]; rfl
        have HE1 : Hid ((l.take (j + 1)).filter (fun c => o.testBit c) = F1 ++ [c]) := Lib.hid (by rw [HST1.out, hbt]; rfl)
        have HE2 : Hid ((l.take (j + 1)).filter (fun c => !o.testBit c) = F2) := Lib.hid (by rw [HST2.out, hbt]; exact List.append_nil _)
        go_upto_region 9 with fail
        go_wp2_with (at_builtin; refine appU rfl (.tmp 60) (.tmp 62) rfl w4.heap.size _ F1 [c] rfl (H16.out.alloc _) _ _ _ rfl (byt_new1 wr c (by have := HC.out; omega)) (by have := HLF1.out; omega) (by rw [World.size_alloc]; have := HA5.out.size; omega) ?_; intro v2 w10 hown10 hb10 hg10 hnb10)
        have HO10 := Lib.hid hown10
        have H17b := Lib.hid (Owns.kept (H17.out.alloc (.cells #[.int .u8 (c : Int)] 5)) hg10 HAP.out.row)
        have HAP2 := Lib.hid (HAP.out.app (H17.out.alloc (.cells #[.int .u8 (c : Int)] 5)) hnb10)
        have HA10 := Lib.hid (HA5.out.trans (((Below.refl w4.heap.size wr).alloc HA5.out.size (.cells #[.int .u8 (c : Int)] 5)).trans hb10))
        clear hown10 hb10 hg10 hnb10
        go_roundg (nl - (j + 1))
        case measure => omega
        case rel => exact ⟨j + 1, rfl, by omega, by go_num, by rw [HE1.out]; exact HO10.out, by rw [HE2.out]; exact H17b.out, HAP2.out, HA10.out⟩
    · obtain rfl : j = nl := by omega
      have hdk : decide (j < j) = false := by simp
      have HT1 : Hid ((l.take j).filter (fun c => o.testBit c) = l.filter fun c => o.testBit c) := Lib.hid (by rw [List.take_of_length_le (by rw [HNL.out]; exact Nat.le_refl _)])
      have HT2 : Hid ((l.take j).filter (fun c => !o.testBit c) = l.filter fun c => !o.testBit c) := Lib.hid (by rw [List.take_of_length_le (by rw [HNL.out]; exact Nat.le_refl _)])
      rw [HT1.out] at H16
      rw [HT2.out] at H17
      clear hlt HT1 HT2
      obtain ⟨a6, c6, -, -, e6, hc6, ha6, -⟩ : ∃ a6 c6, True ∧ True ∧ u16 = .slice a6 (l.filter fun c => o.testBit c).length c6 ∧ (l.filter fun c => o.testBit c).length ≤ c6 ∧ (a6 = none → c6 = 0) ∧ True := by
        rcases H16.out.form with ⟨e1, e2⟩ | ⟨g, cap, e1, -, -, h3, -⟩
        · exact ⟨none, 0, trivial, trivial, by rw [e1, e2]; rfl, by rw [e2]; exact Nat.le_refl _, fun _ => rfl, trivial⟩
        · exact ⟨_, cap, trivial, trivial, e1, h3, (fun h => by cases h), trivial⟩
      obtain ⟨a7, c7, -, -, e7, hc7, ha7, -⟩ : ∃ a7 c7, True ∧ True ∧ u17 = .slice a7 (l.filter fun c => !o.testBit c).length c7 ∧ (l.filter fun c => !o.testBit c).length ≤ c7 ∧ (a7 = none → c7 = 0) ∧ True := by
        rcases H17.out.form with ⟨e1, e2⟩ | ⟨g, cap, e1, -, -, h3, -⟩
        · exact ⟨none, 0, trivial, trivial, by rw [e1, e2]; rfl, by rw [e2]; exact Nat.le_refl _, fun _ => rfl, trivial⟩
        · exact ⟨_, cap, trivial, trivial, e1, h3, (fun h => by cases h), trivial⟩
      subst e6 e7
      obtain ⟨F1, hF1⟩ : ∃ z, (l.filter fun c => o.testBit c) = z := ⟨_, rfl⟩
      obtain ⟨F2, hF2⟩ : ∃ z, (l.filter fun c => !o.testBit c) = z := ⟨_, rfl⟩
      have HF := Lib.hid (And.intro hF1 hF2)
      rw [hF1] at H16 hc6
      rw [hF2] at H17 hc7
      rw [hF1, hF2]
      clear hF1 hF2
      obtain ⟨n6, hn6⟩ : ∃ z, F1.length = z := ⟨_, rfl⟩
      obtain ⟨n7, hn7⟩ : ∃ z, F2.length = z := ⟨_, rfl⟩
      have HN67 := Lib.hid (And.intro hn6 hn7)
      have HM24 : Hid (F1.length ≤ 24 ∧ F2.length ≤ 24 ∧ n6 ≤ 24 ∧ n7 ≤ 24) := Lib.hid (by
        have e1 := List.length_filter_le (fun c => o.testBit c) l
        have e2 := List.length_filter_le (fun c => !o.testBit c) l
        rw [HF.out.1] at e1
        rw [HF.out.2] at e2
        have := HL24.out.2.1
        omega)
      rw [hn6] at hc6 H16 ⊢
      rw [hn7] at hc7 H17 ⊢
      have hm7 : n7 ≤ 24 := HM24.out.2.2.2
      clear hn6 hn7
      obtain ⟨m, hm⟩ : ∃ z, n7 / 2 = z := ⟨_, rfl⟩
      have hmI : (n7 : Int).tdiv 2 = (m : Int) := by rw [Int.tdiv_eq_ediv_of_nonneg (by omega)]; omega
      have hmI2 : (n7 : Int) / 2 = (m : Int) := by omega
      have hm7' : m ≤ n7 := by omega
      have HMM := Lib.hid hm
      clear hm
      obtain ⟨hu1, hu2⟩ := upto_runX a7 n7 c7 m F2 wr hm7' hc7 ha7 (OwnU.bytX H17.out HM24.out.2.1 HN67.out.2 (fun y hy => HL24.out.2.2 y (by rw [← HF.out.2] at hy; exact (List.mem_filter.1 hy).1)))
      obtain ⟨a8, hd1, hd2, -⟩ := cut_runX a7 n7 c7 m F2 wr hm7' hc7 (OwnU.bytX H17.out HM24.out.2.1 HN67.out.2 (fun y hy => HL24.out.2.2 y (by rw [← HF.out.2] at hy; exact (List.mem_filter.1 hy).1)))
      have hel : Tryd.prog.underlying 25 = some (.slice (Tryd.prog.elem 25)) := by kernel_rfl
      have HSL := Lib.hid (fun wx => (run_sliceAt_slice (w := wx) 25 (.slice a7 n7 c7) none (some (.int .i64 (m : Int))) none hel).trans (hu1 wx))
      have HSR := Lib.hid (fun wx => (run_sliceAt_slice (w := wx) 25 (.slice a7 n7 c7) (some (.int .i64 (m : Int))) none none hel).trans (hd1 wx))
      clear hel
      have HY6 := Lib.hid (OwnU.bytX H16.out HM24.out.1 HN67.out.1 (fun y hy => HL24.out.2.2 y (by rw [← HF.out.1] at hy; exact (List.mem_filter.1 hy).1)))
      have ha := (Below.refl wr.heap.size wr).alloc (Nat.le_refl _) (.cells (cmA sd 0 (.slice a6 n6 c6)) 44)
      have HT7 : Hid (∀ W, Below (wr.alloc (.cells (cmA sd 0 (.slice a6 n6 c6)) 44)).heap.size (wr.alloc (.cells (cmA sd 0 (.slice a6 n6 c6)) 44)) W → Byt W a7 m (F2.take m)) := Lib.hid fun W hb => (hu2.below (Nat.le_refl _) ha).below (Nat.le_refl _) hb
      have HT8 : Hid (∀ W, Below (wr.alloc (.cells (cmA sd 0 (.slice a6 n6 c6)) 44)).heap.size (wr.alloc (.cells (cmA sd 0 (.slice a6 n6 c6)) 44)) W → Byt W a8 (n7 - m) (F2.drop m)) := Lib.hid fun W hb => (hd2.below (Nat.le_refl _) ha).below (Nat.le_refl _) hb
      have HSA := Lib.hid (Row.new wr 44 (cmA sd 0 (.slice a6 n6 c6)))
      have HA8 := Lib.hid (HA5.out.trans (ha.mono HA5.out.size))
      have HY6 := Lib.hid (HY6.out.below (Nat.le_refl _) ha)
      have HL6 : Hid (∀ b off, a6 = some ⟨b, off, none⟩ → b < (wr.alloc (.cells (cmA sd 0 (.slice a6 n6 c6)) 44)).heap.size) := Lib.hid fun b off e => by
        rw [e] at H16
        have := (H16.out.ltB b rfl).2
        rw [World.size_alloc]; omega
      clear hu1 hu2 hd1 hd2 ha6 ha7 hc6 hc7 ha H16 H17 HAP
      go_upto_region 12 with fail
      go_wp2_with fail
      show Code.wp _ _ _ _ (wr.alloc (.cells (cmA sd 0 (.slice a6 n6 c6)) 44))
      generalize wr.alloc (.cells (cmA sd 0 (.slice a6 n6 c6)) 44) = w8 at *
      obtain ⟨bs, hbs⟩ : ∃ b, wr.heap.size = b := ⟨_, rfl⟩
      rw [hbs] at HSA ⊢
      clear hbs hm7 hmI hmI2 hm7'
      have HR8 := Lib.hid (HR4.out.later HA8.out)
      have HB8 := Lib.hid (HB4.out.trans (HA8.out.mono HB4.out.size))
      refine wp_region_reliesT (ChF [.int .u8 (sd : Int), undef, .slice a7 n7 c7, .int .i64 (m : Int), .slice a7 m c7, undef, .slice a6 n6 c6, undef, .slice a7 n7 c7, .int .i64 (m : Int), .slice a8 (n7 - m) (c7 - m), undef, undef, undef, undef] [1, 5, 7, 11, 12, 14] [13] (LgS w8 sd (F2.take m) F1 (F2.drop m))) (fun _ => true) (by kernel_rfl) (by kernel_rfl) (by kernel_rfl) (by kernel_rfl) (ChF.start ⟨(Below.refl _ _).drew, trivial, trivial⟩) ?obls ?fini
      case obls =>
        refine ⟨⟨?_, ?_⟩, ⟨?_, ?_⟩, ⟨?_, ?_⟩, ⟨?_, ?_⟩, ⟨?_, ?_⟩, ⟨?_, ?_⟩, ⟨?_, ?_⟩, ⟨?_, ?_⟩, ⟨?_, ?_⟩, ⟨?_, ?_⟩, ⟨?_, ?_⟩, ⟨?_, ?_⟩, ⟨?_, ?_⟩, ⟨?_, ?_⟩, ⟨?_, ?_⟩, trivial⟩
        · rfl
        · rintro ρ f W ⟨vs, us, hX⟩ hfi hw hcl hf
          have f14 : ρ (.tmp 14) = .int .u8 (sd : Int) := hf.1 14 (by simp [Op.operands])
          exact ok_value (v := .int .u8 (sd : Int)) (w' := W) (by simp [execOp, f14]) (hX.pure 0 _ (by decide) (by decide) rfl hX.st)
        · rfl
        · rintro ρ f W ⟨vs, us, hX⟩ hfi hw hcl hf
          have hl := hX.le1 0 1 rfl hfi
          obtain rfl := list0 hl
          obtain ⟨hbe, hus, -⟩ := hX.st
          refine ok_value (v := .slice (some ⟨W.heap.size, 0, none⟩) 0 0) (w' := W.alloc (.cells #[] 5)) (by simp [execOp, go_sem]) ?_
          exact hX.step1 1 _ rfl (by decide) (by decide) ⟨hbe.alloc hbe.size _, LgU.usA hus (by decide) _ _, ownU_made0 W _ hbe.size⟩
        · rfl
        · rintro ρ f W ⟨vs, us, hX⟩ hfi hw hcl hf
          have f17 : ρ (.tmp 17) = .slice a7 n7 c7 := hf.1 17 (by simp [Op.operands])
          exact ok_value (v := .slice a7 n7 c7) (w' := W) (by simp [execOp, f17]) (hX.pure 2 _ (by decide) (by decide) rfl hX.st)
        · rfl
        · rintro ρ f W ⟨vs, us, hX⟩ hfi hw hcl hf
          have f21 : ρ (.tmp 21) = .int .i64 (m : Int) := hf.1 21 (by simp [Op.operands])
          exact ok_value (v := .int .i64 (m : Int)) (w' := W) (by simp [execOp, f21]) (hX.pure 3 _ (by decide) (by decide) rfl hX.st)
        · rfl
        · rintro ρ f W ⟨vs, us, hX⟩ hfi hw hcl hf
          have f77 : ρ (.tmp 77) = .slice a7 n7 c7 := hX.val 2 _ _ (by decide) (by decide) (hf.1 77 (by simp [Op.operands])) rfl
          have f78 : ρ (.tmp 78) = .int .i64 (m : Int) := hX.val 3 _ _ (by decide) (by decide) (hf.1 78 (by simp [Op.operands])) rfl
          exact ok_value (v := .slice a7 m c7) (w' := W) (by simp only [execOp, f77, f78, Option.map_some, Option.map_none, Sem.run_bind, HSL.out, Result.andThen_ok, Sem.run_pure]) (hX.pure 4 _ (by decide) (by decide) rfl hX.st)
        · rfl
        · rintro ρ f W ⟨vs, us, hX⟩ hfi hw hcl hf
          have g76 := hX.get1 0 1 rfl (hf.1 76 (by simp [Op.operands, Call.operands]))
          have f79 : ρ (.tmp 79) = .slice a7 m c7 := hX.val 4 _ _ (by decide) (by decide) (hf.1 79 (by simp [Op.operands, Call.operands])) rfl
          have hl := hX.le1 1 5 rfl hfi
          obtain ⟨p, rfl⟩ : ∃ p, vs = [p] := ⟨_, list1 hl g76⟩
          obtain ⟨hbe, hus, hown⟩ := hX.st
          have f76 : ρ (.tmp 76) = p := (Option.some.inj (show some p = some (ρ (.tmp 76)) from g76)).symm
          refine ok_appX (.tmp 76) (.tmp 79) rfl w8.heap.size p [] (F2.take m) f76 hown a7 m c7 f79 (HT7.out W hbe) (by have := HM24.out; have := HMM.out; simp; omega) hbe.size ?_
          intro v' w' h1 hg h4
          exact hX.step1 5 _ rfl (by decide) (by decide) ⟨hbe.trans (grown_below hown hg hbe.size), LgU.us hown hg (show _ < 6 from by simp) hus _, h1⟩
        · rfl
        · rintro ρ f W ⟨vs, us, hX⟩ hfi hw hcl hf
          have f16 : ρ (.tmp 16) = .slice a6 n6 c6 := hf.1 16 (by simp [Op.operands])
          exact ok_value (v := .slice a6 n6 c6) (w' := W) (by simp [execOp, f16]) (hX.pure 6 _ (by decide) (by decide) rfl hX.st)
        · rfl
        · rintro ρ f W ⟨vs, us, hX⟩ hfi hw hcl hf
          have g80 := hX.get1 1 5 rfl (hf.1 80 (by simp [Op.operands, Call.operands]))
          have f81 : ρ (.tmp 81) = .slice a6 n6 c6 := hX.val 6 _ _ (by decide) (by decide) (hf.1 81 (by simp [Op.operands, Call.operands])) rfl
          have hl := hX.le1 2 7 rfl hfi
          obtain ⟨p0, rfl⟩ := list2 hl g80
          obtain ⟨hbe, hus, hown⟩ := hX.st
          obtain ⟨p, hp⟩ : ∃ p, ρ (.tmp 80) = p := ⟨_, rfl⟩
          rw [hp] at hown hX
          refine ok_appX (.tmp 80) (.tmp 81) rfl w8.heap.size p (F2.take m) F1 hp hown a6 n6 c6 f81 (HY6.out.below (Nat.le_refl _) hbe) (by have := HM24.out; have := HMM.out; rw [List.length_take]; omega) hbe.size ?_
          intro v' w' h1 hg h4
          exact hX.step1 7 _ rfl (by decide) (by decide) ⟨hbe.trans (grown_below hown hg hbe.size), LgU.us hown hg (show _ < 6 from by simp) hus _, h1⟩
        · rfl
        · rintro ρ f W ⟨vs, us, hX⟩ hfi hw hcl hf
          have f17 : ρ (.tmp 17) = .slice a7 n7 c7 := hf.1 17 (by simp [Op.operands])
          exact ok_value (v := .slice a7 n7 c7) (w' := W) (by simp [execOp, f17]) (hX.pure 8 _ (by decide) (by decide) rfl hX.st)
        · rfl
        · rintro ρ f W ⟨vs, us, hX⟩ hfi hw hcl hf
          have f21 : ρ (.tmp 21) = .int .i64 (m : Int) := hf.1 21 (by simp [Op.operands])
          exact ok_value (v := .int .i64 (m : Int)) (w' := W) (by simp [execOp, f21]) (hX.pure 9 _ (by decide) (by decide) rfl hX.st)
        · rfl
        · rintro ρ f W ⟨vs, us, hX⟩ hfi hw hcl hf
          have f83 : ρ (.tmp 83) = .slice a7 n7 c7 := hX.val 8 _ _ (by decide) (by decide) (hf.1 83 (by simp [Op.operands])) rfl
          have f84 : ρ (.tmp 84) = .int .i64 (m : Int) := hX.val 9 _ _ (by decide) (by decide) (hf.1 84 (by simp [Op.operands])) rfl
          exact ok_value (v := .slice a8 (n7 - m) (c7 - m)) (w' := W) (by simp only [execOp, f83, f84, Option.map_some, Option.map_none, Sem.run_bind, HSR.out, Result.andThen_ok, Sem.run_pure]) (hX.pure 10 _ (by decide) (by decide) rfl hX.st)
        · rfl
        · rintro ρ f W ⟨vs, us, hX⟩ hfi hw hcl hf
          have g82 := hX.get1 2 7 rfl (hf.1 82 (by simp [Op.operands, Call.operands]))
          have f85 : ρ (.tmp 85) = .slice a8 (n7 - m) (c7 - m) := hX.val 10 _ _ (by decide) (by decide) (hf.1 85 (by simp [Op.operands, Call.operands])) rfl
          have hl := hX.le1 3 11 rfl hfi
          obtain ⟨p0, p1, rfl⟩ := list3 hl g82
          obtain ⟨hbe, hus, hown⟩ := hX.st
          obtain ⟨p, hp⟩ : ∃ p, ρ (.tmp 82) = p := ⟨_, rfl⟩
          rw [hp] at hown hX
          refine ok_appX (.tmp 82) (.tmp 85) rfl w8.heap.size p (F2.take m ++ F1) (F2.drop m) hp hown a8 (n7 - m) (c7 - m) f85 (HT8.out W hbe) (by have := HM24.out; have := HMM.out; rw [List.length_append, List.length_take]; omega) hbe.size ?_
          intro v' w' h1 hg h4
          exact hX.step1 11 _ rfl (by decide) (by decide) ⟨hbe.trans (grown_below hown hg hbe.size), LgU.us hown hg (show _ < 6 from by simp) hus _, h1⟩
        · rfl
        · rintro ρ f W ⟨vs, us, hX⟩ hfi hw hcl hf
          have f75 : ρ (.tmp 75) = .int .u8 (sd : Int) := hX.val 0 _ _ (by decide) (by decide) (hf.1 75 (by simp [Op.operands])) rfl
          have g86 := hX.get1 3 11 rfl (hf.1 86 (by simp [Op.operands]))
          have hl := hX.le1 4 12 rfl hfi
          obtain ⟨p0, p1, p2, rfl⟩ := list4 hl g86
          obtain ⟨hbe, hus, hown⟩ := hX.st
          obtain ⟨p, hp⟩ : ∃ p, ρ (.tmp 86) = p := ⟨_, rfl⟩
          rw [hp] at hown hX
          obtain ⟨ap, cp, rfl⟩ : ∃ ap cp, p = .slice ap (F2.take m ++ F1 ++ F2.drop m).length cp := by
            obtain ⟨ap, cp, e, -⟩ := hown.slice
            exact ⟨ap, cp, e⟩
          obtain ⟨np, hnp⟩ : ∃ z, (F2.take m ++ F1 ++ F2.drop m).length = z := ⟨_, rfl⟩
          rw [hnp] at hp hown hX
          exact ok_value (v := .agg (cmA sd 0 (.slice ap np cp))) (w' := W) (by simp [execOp, f75, hp, go_sem, cmA]) (hX.step1 12 _ rfl (by decide) (by decide) ⟨hbe, LgU.usS hus (show _ < 6 from by simp) _, hown, rfl⟩)
        · rfl
        · rintro ρ f W ⟨vs, us, hX⟩ hfi hw hcl hf
          have hl := hX.le2 0 13 rfl hfi
          obtain rfl := list0 hl
          refine ok_value (v := .pointer (some ⟨W.heap.size, 0, none⟩)) (w' := W.alloc (.cells #[.int .u8 0, .int .i64 0, .slice none 0 0] 44)) (by simp [execOp, go_sem]) ?_
          exact hX.step2 13 _ rfl (by decide) (by decide) (LgS.al hX.st)
        · rfl
        · rintro ρ f W ⟨vs, us, hX⟩ hfi hw hcl hf
          have g22 := hX.get2 0 13 rfl (hf.1 22 (by simp [Op.operands]))
          have g87 := hX.get1 4 12 rfl (hf.1 87 (by simp [Op.operands]))
          have hl := hX.le1 5 14 rfl hfi
          obtain ⟨p0, p1, p2, p3, rfl⟩ := list5 hl g87
          obtain ⟨hbe, hus, hown, hge⟩ := hX.st
          obtain ⟨ub, rfl⟩ : ∃ u, us = [u] := ⟨_, list1 hX.l2 g22⟩
          obtain ⟨b, rfl, hlo, hrow⟩ := hus
          have hr := hrow (show _ < 6 from by simp)
          have f22 : ρ (.tmp 22) = .pointer (some ⟨b, 0, none⟩) := (Option.some.inj (show some (Value.pointer (some ⟨b, 0, none⟩)) = some (ρ (.tmp 22)) from g22)).symm
          refine ok_skip (exec_store_row 44 (.tmp 22) (.tmp 87) rfl b (cmA sd 0 p3) f22 hge hr size_cm rfl (by
            obtain ⟨ap, cp, e, -⟩ := hown.slice
            rw [e]; simp [cmA, Value.oneCell'])) ?_
          exact hX.step1 14 _ rfl (by decide) (by decide) ⟨hbe.trans (below_setRow (Below.refl w8.heap.size W) hlo _), ⟨b, rfl, hlo, fun h => absurd h (by simp)⟩, Owns.kept hown (grownBy_rowX W b _) (.inl (own_apart hown hr (by decide))), b, rfl, hlo, setRow_heap _ _ _ _ _ _ hr⟩
      case fini =>
        rintro us w9 hlen ⟨vs, us', hX⟩
        have hl0 : us.length = 15 := hlen
        match us, hl0 with
        | [y0, y1, y2, y3, y4, y5, y6, y7, y8, y9, y10, y11, y12, y13, y14], _ =>
          obtain ⟨p0, p1, p2, p3, p4, rfl⟩ := list6 hX.l1 (hX.get1 5 14 rfl rfl)
          obtain ⟨hbe, -, hown, bq, rfl, hlo, hrow⟩ := hX.st
          obtain rfl : y13 = .pointer (some ⟨bq, 0, none⟩) := (Option.some.inj (hX.get2 0 13 rfl rfl)).symm
          have HBE := Lib.hid hbe
          have HOW3 := Lib.hid hown
          have HQR := Lib.hid hrow
          clear hX hlen hbe hown hrow hlo
          simp only [putAll, List.zip_cons_cons, List.zip_nil_right, List.foldl_cons, List.foldl_nil]
          simp only [Act.put, List.setIfInBounds_toArray, List.set_cons_succ, List.set_cons_zero]
          have hG : F2.take m ++ F1 ++ F2.drop m = longL (fun c => o.testBit c) l := by
            unfold longL
            rw [HF.out.1, HF.out.2, HN67.out.2, HMM.out]
          have hfil : F1.filter (fun c => o.testBit c) = (F2.take m ++ F1 ++ F2.drop m).filter (fun c => o.testBit c) := by rw [hG, long_filter, HF.out.1]
          have hper := long_perm (fun c => o.testBit c) l
          rw [← hG] at hper
          have h52F : ∀ y ∈ F1, y < 52 := fun y hy => HL24.out.2.2 y (by rw [← HF.out.1] at hy; exact (List.mem_filter.1 hy).1)
          have h52G : ∀ y ∈ F2.take m ++ F1 ++ F2.drop m, y < 52 := fun y hy => HL24.out.2.2 y (hper.mem_iff.1 hy)
          have hcF : claimB sd 0 F1 q = true := claim_ok h52F (by rw [← HF.out.1]; exact HND.out.filter _) HM24.out.1 hs2 q
          have hcG : claimB sd 0 (F2.take m ++ F1 ++ F2.drop m) q = true := claim_ok h52G (hper.nodup_iff.2 HND.out) (by rw [hper.length_eq]; exact HL24.out.2.1) hs2 q
          have hmq : 4 * q - ([] : List Nat).length + (Tb.mk h l4 []).cs.length = 4 * q := by simp
          have hmn := mn_side (sd := sd) (tr := t5) hfil (4 * q - ([] : List Nat).length) ⟨h, l4, []⟩ HTG.out.ok.pk HSP.out
          have hag := agL_side (sd := sd) (tr := t5) hfil (4 * q - ([] : List Nat).length) q ⟨h, l4, []⟩ HTG.out hmq hq4 HSP.out
          have hL52 := agL_52 sd t5 F1 (4 * q - ([] : List Nat).length) q ⟨h, l4, []⟩ HTG.out hmq hq4
          have hLl := agL_len sd t5 F1 (4 * q - ([] : List Nat).length) ⟨h, l4, []⟩
          have HSF := Lib.hid (HSU.out F1 h52F hcF)
          have HSG := Lib.hid (HSU.out (F2.take m ++ F1 ++ F2.drop m) h52G hcG)
          have HAF := Lib.hid (HAG.out F1 h52F hcF)
          have HAGG := Lib.hid (HAG.out (F2.take m ++ F1 ++ F2.drop m) h52G hcG)
          have HLM := Lib.hid (LnM.of_own HOW3.out (by rw [hper.length_eq]; have := HL24.out.2.1; omega) h52G)
          rw [← hmn] at HSG
          rw [← hag] at HAGG
          rw [HN67.out.1] at HSF HAF
          obtain ⟨L, hL⟩ : ∃ z, agL sd t5 F1 (4 * q - ([] : List Nat).length) ⟨h, l4, []⟩ = z := ⟨_, rfl⟩
          rw [hL] at HAF HAGG hL52 hLl
          obtain ⟨x, hx⟩ : ∃ z, mn sd t5 false F1 (4 * q - ([] : List Nat).length) ⟨h, l4, []⟩ = z := ⟨_, rfl⟩
          rw [hx] at HSF HSG
          have HLL : Hid (L.length ≤ 140737488351232 ∧ ∀ y ∈ L, y < 52) := Lib.hid ⟨by rw [hLl]; omega, hL52⟩
          obtain ⟨G, hGG⟩ : ∃ z, F2.take m ++ F1 ++ F2.drop m = z := ⟨_, rfl⟩
          rw [hGG] at HSG HAGG HLM HOW3
          obtain ⟨ga, gc, hp3, hgby, hgb⟩ := HLM.out
          subst hp3
          obtain ⟨gn, hgn⟩ : ∃ z, G.length = z := ⟨_, rfl⟩
          rw [hgn] at HSG HAGG HLM HQR hgby
          obtain ⟨SA, hSA⟩ : ∃ z, cmA sd 0 (.slice a6 n6 c6) = z := ⟨_, rfl⟩
          obtain ⟨QA, hQA⟩ : ∃ z, cmA sd 0 (.slice ga gn gc) = z := ⟨_, rfl⟩
          have HSZ : Hid (SA.size = 3) := Lib.hid (by rw [← hSA]; rfl)
          have HQZ : Hid (QA.size = 3) := Lib.hid (by rw [← hQA]; rfl)
          have HY9 := Lib.hid (HY6.out.below (Nat.le_refl _) HBE.out)
          have HG9 := Lib.hid hgby
          have HGB := Lib.hid hgb
          have HL9 : Hid (∀ b off, a6 = some ⟨b, off, none⟩ → b < w9.heap.size) := Lib.hid fun b off e => Nat.lt_of_lt_of_le (HL6.out b off e) HBE.out.size
          have HSF := Lib.hid (fun W hT hl hln => HSF.out W hT a6 c6 hl hln)
          have HSG := Lib.hid (fun W hT hl hln => HSG.out W hT ga gc hl hln)
          have HAF := Lib.hid (fun W hT hl hln => HAF.out W hT a6 c6 hl hln)
          have HAGG := Lib.hid (fun W hT hl hln => HAGG.out W hT ga gc hl hln)
          try simp only [HN67.out.1] at HSF HAF
          try simp only [hgn] at HSG HAGG
          rw [hSA] at HSA HSF HAF
          rw [hQA] at HQR HSG HAGG
          have HR9 := Lib.hid (HR8.out.later HBE.out)
          have HS9 := Lib.hid (HSA.out.later HBE.out)
          have HQ9 := Lib.hid HQR.out
          have HB9 := Lib.hid (HB8.out.trans (HBE.out.mono HB8.out.size))
          have HT9 := Lib.hid (HT.out.below HT.out.pos HB9.out)
          have HU9 := Lib.hid (Nat.le_refl w9.heap.size)
          clear HSA HQR HBE HOW3 hG hfil hper h52F h52G hcF hcG hmq hmn hag hL52 hLl hGG hgn hSA hQA hgby hgb HSU HAG hL hx HLM
          go_wp2_with (first
    | refine wpList_load_row rfl 27 (.tmp 13) rfl bp rfl 27 PA (0, 0) _ HR9.out Tryd.underlying27 rfl (by rw [HPZ.out.1]; exact size_pos) ?_
    | refine wpList_load_row rfl 44 (.tmp 20) rfl bs rfl 44 SA (0, 0) _ HS9.out Tryd.underlying44 rfl (by rw [HSZ.out]; exact size_cm) ?_
    | refine wpList_load_row rfl 44 (.tmp 22) rfl bq rfl 44 QA (0, 0) _ HQ9.out Tryd.underlying44 rfl (by rw [HQZ.out]; exact size_cm) ?_)
          refine (HSF.out w9 HT9.out HY9.out (fun b off e => Nat.lt_of_lt_of_le (HL9.out b off e) HU9.out)).mono ?_
          rintro e w10 ⟨rfl, hb⟩
          have HR10 := Lib.hid (HR9.out.later hb)
          have HS10 := Lib.hid (HS9.out.later hb)
          have HQ10 := Lib.hid (HQ9.out.later hb)
          have HY10 := Lib.hid (HY9.out.below (Nat.le_refl _) hb)
          have HG10 := Lib.hid (HG9.out.below (Nat.le_refl _) hb)
          have HB10 := Lib.hid (HB9.out.trans (hb.mono HB9.out.size))
          have HT10 := Lib.hid (HT9.out.below HT9.out.pos hb)
          have HU10 := Lib.hid (Nat.le_trans HU9.out hb.size)
          clear hb HR9 HS9 HQ9 HY9 HG9 HB9 HT9
          go_wp2_with (first
    | refine wpList_load_row rfl 27 (.tmp 13) rfl bp rfl 27 PA (0, 0) _ HR10.out Tryd.underlying27 rfl (by rw [HPZ.out.1]; exact size_pos) ?_
    | refine wpList_load_row rfl 44 (.tmp 20) rfl bs rfl 44 SA (0, 0) _ HS10.out Tryd.underlying44 rfl (by rw [HSZ.out]; exact size_cm) ?_
    | refine wpList_load_row rfl 44 (.tmp 22) rfl bq rfl 44 QA (0, 0) _ HQ10.out Tryd.underlying44 rfl (by rw [HQZ.out]; exact size_cm) ?_)
          refine (HSG.out w10 HT10.out HG10.out (fun b off e => Nat.lt_of_lt_of_le (HGB.out b off e) HU10.out)).mono ?_
          rintro e w11 ⟨rfl, hb⟩
          have HR11 := Lib.hid (HR10.out.later hb)
          have HS11 := Lib.hid (HS10.out.later hb)
          have HQ11 := Lib.hid (HQ10.out.later hb)
          have HY11 := Lib.hid (HY10.out.below (Nat.le_refl _) hb)
          have HG11 := Lib.hid (HG10.out.below (Nat.le_refl _) hb)
          have HB11 := Lib.hid (HB10.out.trans (hb.mono HB10.out.size))
          have HT11 := Lib.hid (HT10.out.below HT10.out.pos hb)
          have HU11 := Lib.hid (Nat.le_trans HU10.out hb.size)
          clear hb HR10 HS10 HQ10 HY10 HG10 HB10 HT10
          go_wp2_with (first
    | refine wpList_load_row rfl 27 (.tmp 13) rfl bp rfl 27 PA (0, 0) _ HR11.out Tryd.underlying27 rfl (by rw [HPZ.out.1]; exact size_pos) ?_
    | refine wpList_load_row rfl 44 (.tmp 20) rfl bs rfl 44 SA (0, 0) _ HS11.out Tryd.underlying44 rfl (by rw [HSZ.out]; exact size_cm) ?_
    | refine wpList_load_row rfl 44 (.tmp 22) rfl bq rfl 44 QA (0, 0) _ HQ11.out Tryd.underlying44 rfl (by rw [HQZ.out]; exact size_cm) ?_)
          refine (HAF.out w11 HT11.out HY11.out (fun b off e => Nat.lt_of_lt_of_le (HL9.out b off e) HU11.out)).mono ?_
          rintro e w12 ⟨v12, rfl, hown, hb⟩
          obtain ⟨xa12, xc12, rfl, hxb, -⟩ := LnM.of_own hown HLL.out.1 HLL.out.2
          have HX12_12 := Lib.hid hxb
          clear hown hxb
          have HR12 := Lib.hid (HR11.out.later hb)
          have HS12 := Lib.hid (HS11.out.later hb)
          have HQ12 := Lib.hid (HQ11.out.later hb)
          have HY12 := Lib.hid (HY11.out.below (Nat.le_refl _) hb)
          have HG12 := Lib.hid (HG11.out.below (Nat.le_refl _) hb)
          have HB12 := Lib.hid (HB11.out.trans (hb.mono HB11.out.size))
          have HT12 := Lib.hid (HT11.out.below HT11.out.pos hb)
          have HU12 := Lib.hid (Nat.le_trans HU11.out hb.size)
          clear hb HR11 HS11 HQ11 HY11 HG11 HB11 HT11
          go_wp2_with (first
    | refine wpList_load_row rfl 27 (.tmp 13) rfl bp rfl 27 PA (0, 0) _ HR12.out Tryd.underlying27 rfl (by rw [HPZ.out.1]; exact size_pos) ?_
    | refine wpList_load_row rfl 44 (.tmp 20) rfl bs rfl 44 SA (0, 0) _ HS12.out Tryd.underlying44 rfl (by rw [HSZ.out]; exact size_cm) ?_
    | refine wpList_load_row rfl 44 (.tmp 22) rfl bq rfl 44 QA (0, 0) _ HQ12.out Tryd.underlying44 rfl (by rw [HQZ.out]; exact size_cm) ?_)
          refine (HAGG.out w12 HT12.out HG12.out (fun b off e => Nat.lt_of_lt_of_le (HGB.out b off e) HU12.out)).mono ?_
          rintro e w13 ⟨v13, rfl, hown, hb⟩
          obtain ⟨xa13, xc13, rfl, hxb, -⟩ := LnM.of_own hown HLL.out.1 HLL.out.2
          have HX13_13 := Lib.hid hxb
          clear hown hxb
          have HR13 := Lib.hid (HR12.out.later hb)
          have HS13 := Lib.hid (HS12.out.later hb)
          have HQ13 := Lib.hid (HQ12.out.later hb)
          have HY13 := Lib.hid (HY12.out.below (Nat.le_refl _) hb)
          have HG13 := Lib.hid (HG12.out.below (Nat.le_refl _) hb)
          have HB13 := Lib.hid (HB12.out.trans (hb.mono HB12.out.size))
          have HT13 := Lib.hid (HT12.out.below HT12.out.pos hb)
          have HU13 := Lib.hid (Nat.le_trans HU12.out hb.size)
          have HX12_13 := Lib.hid (HX12_12.out.below (Nat.le_refl _) hb)
          clear HX12_12
          clear hb HR12 HS12 HQ12 HY12 HG12 HB12 HT12
          have hs1 := byt_stringX HX12_13.out xc12 25 9 5 Tryd.underlying25 Tryd.underlying5 Tryd.underlying9
          have hs2' := byt_stringX HX13_13.out xc13 25 9 5 Tryd.underlying25 Tryd.underlying5 Tryd.underlying9
          have HAK := Lib.hid (cl_awake w13 (HT.out.below HT.out.pos HB13.out))
          clear HR13 HS13 HQ13 HY13 HG13
          go_wp2_with fail
          refine HAK.out.mono ?_
          rintro e w14 ⟨rfl, hb9⟩
          have HB14 := Lib.hid (HB13.out.trans (hb9.mono HB13.out.size))
          clear hb9
          go_wp2_with fail
          go_ret
          exact ⟨rfl, HB14.out⟩
end Go.Proofs.YtnbillhodbcfbaaDoor
