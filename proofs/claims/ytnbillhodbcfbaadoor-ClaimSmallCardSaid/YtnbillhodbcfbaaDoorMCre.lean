/- CrE, CrF in one text. -/
import Derived.Test.YtnbillhodbcfbaaDoorMCra
import Derived.Test.YtnbillhodbcfbaaDoorMCls

/- The reference of chapter 16 over this seat's program: after, least. -/
namespace Go.Proofs.YtnbillhodbcfbaaDoor
open Go.RowKit Go.Shelf Go.Sort Go.Maps Go.WideMaps

set_option maxHeartbeats 2000000 in
set_option maxRecDepth 10000 in
theorem cr_after (t : Tb) (hk : TbOk t) (hu : Uniq t) (tr sd c : Nat) (htr : tr < 256) (hsd : sd < 2) (hl : t.legal c = true) (a : Option Addr) (cap : Nat) (w : World) (hz : Byt w a t.cs.length t.cs) :
    Calls Tryd.prog 62 #[.agg (posA t.h tr t.ld (.slice a t.cs.length cap)), .int .i64 (c : Int), .int .u8 (sd : Int)] w (AfterOk (t.put tr c).1 tr (wonS sd tr t c) w) := by
  have hb1 := (Below.refl w.heap.size w).alloc (Nat.le_refl _) (.cells (posA t.h tr t.ld (.slice a t.cs.length cap)) 62)
  have hb2 := hb1.alloc hb1.size (.cells zeroP 62)
  have HAF := Lib.hid (dr_After t hk hu tr c htr hl a cap _ (hz.below (Nat.le_refl _) hb2))
  have hws := wonS_put (sd := sd) (tr := tr) (t := t) (c := c) hsd hk.pk.2
  have hz0 : t.cs.length < 3 → (t.put tr c).2 = 0 := fun h3 => by
    unfold Tb.put Tb.settle
    rw [if_pos (by show (t.cs ++ [c]).length < 4; simp; omega)]
  have HOKU := Lib.hid (show TbOk (t.put tr c).1 from ok_put hk (mem_cards.1 (cards_pk hk.pk hl)).1)
  obtain ⟨u, hue⟩ : ∃ u, (t.put tr c).1 = u := ⟨_, rfl⟩
  obtain ⟨wk, hwk⟩ : ∃ x, (t.put tr c).2 = x := ⟨_, rfl⟩
  obtain ⟨ws, hwse⟩ : ∃ x, wonS sd tr t c = x := ⟨_, rfl⟩
  rw [hue, hwk] at HAF
  rw [hwk, hue, hwse] at hws
  rw [hwk] at hz0
  rw [hue] at HOKU
  rw [hue, hwse]
  have HB := Lib.hid hb2
  have HR := Lib.hid ((Row.new w 62 (posA t.h tr t.ld (.slice a t.cs.length cap))).alloc (.cells zeroP 62))
  have HR6 := Lib.hid (Row.new (w.alloc (.cells (posA t.h tr t.ld (.slice a t.cs.length cap)) 62)) 62 zeroP)
  have hsz : (w.alloc (.cells (posA t.h tr t.ld (.slice a t.cs.length cap)) 62)).heap.size = w.heap.size + 1 := by simp
  rw [hsz] at HR6
  obtain ⟨PA, hPA⟩ : ∃ A, posA t.h tr t.ld (.slice a t.cs.length cap) = A := ⟨_, rfl⟩
  have HPZ : Hid (PA.size = 7) := Lib.hid (by rw [← hPA]; rfl)
  rw [hPA] at HAF HB HR HR6 ⊢
  have HWS := Lib.hid (And.intro hws hz0)
  have HSD := Lib.hid hsd
  clear hPA hb1 hb2 hsz hz hws hz0 hue hwk hwse hk hu hl hsd
  go_enter Tryd.func62, Tryd.ntmps62
  go_upto_region 1 with fail
  generalize (w.alloc (.cells PA 62)).alloc (.cells zeroP 62) = wa at *
  obtain ⟨b1, hb1⟩ : ∃ b, w.heap.size = b := ⟨_, rfl⟩
  have HB1 := Lib.hid hb1
  rw [hb1] at HR HR6 ⊢
  clear hb1
  obtain ⟨b6, hb6⟩ : ∃ b, b1 + 1 = b := ⟨_, rfl⟩
  have HB6 := Lib.hid hb6
  rw [hb6] at HR6 ⊢
  clear hb6
  go_wp2_with (refine wpList_load_row rfl 62 (.tmp 3) rfl b1 rfl 62 PA (0, 0) _ HR.out Tryd.underlying62 rfl (by rw [HPZ.out]; exact size_rpos) ?_)
  refine HAF.out.mono ?_
  rintro e w5 ⟨v5, rfl, hov, hb5⟩
  obtain ⟨ua, uc, rfl, -⟩ := OwnU.playedX hov HOKU.out
  have HUZ := Lib.hid (posA_one u.h tr u.ld ua u.cs.length uc)
  have HU6 : Hid ((posA u.h tr u.ld (.slice ua u.cs.length uc))[6]? = some (.slice ua u.cs.length uc)) := Lib.hid rfl
  obtain ⟨QA, hQA⟩ : ∃ A, posA u.h tr u.ld (.slice ua u.cs.length uc) = A := ⟨_, rfl⟩
  have HQA := Lib.hid hQA
  rw [hQA] at HUZ HU6 ⊢
  have HN := Lib.hid (Row.new w5 62 zeroP)
  have ha := below_setRow ((Below.refl w5.heap.size w5).alloc (Nat.le_refl _) (.cells zeroP 62)) (Nat.le_refl _) QA
  have HQ8 := Lib.hid (show Row ((w5.alloc (.cells zeroP 62)).setRow w5.heap.size QA) w5.heap.size 62 QA from setRow_heap _ _ _ _ _ _ HN.out)
  have hbb := hb5.trans (ha.mono hb5.size)
  have HR66 := Lib.hid (HR6.out.later hbb)
  have HB66 := Lib.hid (HB.out.trans (hbb.mono HB.out.size))
  have HOV := Lib.hid (Owns.below (hov.mono HB.out.size) ha)
  clear hov hb5 ha hbb hQA HR HR6 HB HAF
  go_upto_region 2 with (refine wpList_store_row rfl 62 (.tmp 8) (.tmp 14) rfl w5.heap.size QA rfl rfl 62 _ HN.out (by rw [HUZ.out.1]; exact size_rpos) (by rw [HUZ.out.1]; rfl) HUZ.out.2 ?_)
  generalize (w5.alloc (.cells zeroP 62)).setRow w5.heap.size QA = w6 at *
  obtain ⟨b8, hb8⟩ : ∃ b, w5.heap.size = b := ⟨_, rfl⟩
  rw [hb8] at HQ8 ⊢
  clear hb8 HN
  have c6 : w6.cell? ⟨b8, 6, none⟩ = some (.slice ua u.cs.length uc) := (HQ8.out.cell 6).trans HU6.out
  have HFIN : Hid (∀ z : Int, z = (ws : Int) → AfterOk u tr ws w (.returned (.tuple #[.agg QA, .int .i64 z])) (w6.setRow b6 QA)) := Lib.hid fun z hz => ⟨_, by rw [HQA.out, hz], Owns.kept HOV.out (grownBy_row w6 b6 QA) (.inl (own_apart HOV.out HR66.out (by decide))), below_setRow HB66.out (by rw [HB1.out, ← HB6.out]; omega) _⟩
  obtain ⟨ul, hul⟩ : ∃ z, u.cs.length = z := ⟨_, rfl⟩
  rw [hul] at c6
  have hwk1 := HWS.out.1.1
  rcases HWS.out.1.2 with ⟨_, hc0, ⟨hsd0, hw⟩ | ⟨hsd0, hw⟩⟩ | ⟨h3, hc0, hw⟩
  · have HE : Hid ((wk : Int) = (ws : Int)) := Lib.hid (by rw [hw])
    subst hsd0
    clear hw hc0 HWS hul
    go_wp2_with (first
      | refine wpList_load_row rfl 62 (.tmp 8) rfl b8 rfl 62 QA (0, 0) _ HQ8.out Tryd.underlying62 rfl (by rw [HUZ.out.1]; exact size_rpos) ?_
      | refine wpList_store_row rfl 62 (.tmp 6) (.tmp 26) rfl b6 QA rfl rfl 62 _ HR66.out (by rw [HUZ.out.1]; exact size_rpos) (by rw [HUZ.out.1]; rfl) HUZ.out.2 ?_)
    refine bodyPost_ret (v := .tuple #[.agg QA, .int .i64 ((wk : Int))]) (results_cellt Tryd.results62 _ _ b6 _ QA (0, 0) _ rfl (setRow_heap _ _ _ _ _ _ HR66.out) Tryd.underlying62 rfl (by rw [HUZ.out.1]; exact size_rpos)) rfl (HFIN.out _ HE.out)
  · have HE : Hid ((1 : Int) - (wk : Int) = (ws : Int)) := Lib.hid (by rw [hw]; omega)
    have hul0 : ul = 0 := by rw [← hul, hc0]; rfl
    subst hsd0 hul0
    clear hw hc0 HWS hul
    go_wp2_with (first
      | refine wpList_load_row rfl 62 (.tmp 8) rfl b8 rfl 62 QA (0, 0) _ HQ8.out Tryd.underlying62 rfl (by rw [HUZ.out.1]; exact size_rpos) ?_
      | refine wpList_store_row rfl 62 (.tmp 6) (.tmp 26) rfl b6 QA rfl rfl 62 _ HR66.out (by rw [HUZ.out.1]; exact size_rpos) (by rw [HUZ.out.1]; rfl) HUZ.out.2 ?_)
    refine bodyPost_ret (v := .tuple #[.agg QA, .int .i64 (1 - (wk : Int))]) (results_cellt Tryd.results62 _ _ b6 _ QA (0, 0) _ rfl (setRow_heap _ _ _ _ _ _ HR66.out) Tryd.underlying62 rfl (by rw [HUZ.out.1]; exact size_rpos)) rfl (HFIN.out _ HE.out)
  · have HE : Hid ((wk : Int) = (ws : Int)) := Lib.hid (by rw [hw, HWS.out.2 h3])
    have hul0 : ul ≠ 0 := fun e => hc0 (List.length_eq_zero_iff.1 (by rw [hul, e]))
    have hulb : ((ul : Int) == 0) = false := by rw [beq_eq_false_iff_ne]; omega
    rcases (show sd = 0 ∨ sd = 1 by have := HSD.out; omega) with rfl | rfl
    · clear hw hc0 HWS hul h3
      go_wp2_with (first
        | refine wpList_load_row rfl 62 (.tmp 8) rfl b8 rfl 62 QA (0, 0) _ HQ8.out Tryd.underlying62 rfl (by rw [HUZ.out.1]; exact size_rpos) ?_
        | refine wpList_store_row rfl 62 (.tmp 6) (.tmp 26) rfl b6 QA rfl rfl 62 _ HR66.out (by rw [HUZ.out.1]; exact size_rpos) (by rw [HUZ.out.1]; rfl) HUZ.out.2 ?_)
      refine bodyPost_ret (v := .tuple #[.agg QA, .int .i64 ((wk : Int))]) (results_cellt Tryd.results62 _ _ b6 _ QA (0, 0) _ rfl (setRow_heap _ _ _ _ _ _ HR66.out) Tryd.underlying62 rfl (by rw [HUZ.out.1]; exact size_rpos)) rfl (HFIN.out _ HE.out)
    · clear hw hc0 HWS hul h3
      go_wp2_with (first
        | refine wpList_load_row rfl 62 (.tmp 8) rfl b8 rfl 62 QA (0, 0) _ HQ8.out Tryd.underlying62 rfl (by rw [HUZ.out.1]; exact size_rpos) ?_
        | refine wpList_store_row rfl 62 (.tmp 6) (.tmp 26) rfl b6 QA rfl rfl 62 _ HR66.out (by rw [HUZ.out.1]; exact size_rpos) (by rw [HUZ.out.1]; rfl) HUZ.out.2 ?_)
      refine bodyPost_ret (v := .tuple #[.agg QA, .int .i64 ((wk : Int))]) (results_cellt Tryd.results62 _ _ b6 _ QA (0, 0) _ rfl (setRow_heap _ _ _ _ _ _ HR66.out) Tryd.underlying62 rfl (by rw [HUZ.out.1]; exact size_rpos)) rfl (HFIN.out _ HE.out)
end Go.Proofs.YtnbillhodbcfbaaDoor

/- The reference of chapter 16 over this seat's program: least. -/
namespace Go.Proofs.YtnbillhodbcfbaaDoor
open Go.RowKit Go.Shelf Go.Sort Go.Maps Go.WideMaps

/-- the least of some numbers, from 99 on -/
def bst (f : Nat → Nat) (l : List Nat) : Nat := l.foldl (fun b c => if f c < b then f c else b) 99
theorem bst_snoc (f : Nat → Nat) (l : List Nat) (c : Nat) : bst f (l ++ [c]) = if f c < bst f l then f c else bst f l := by unfold bst; rw [List.foldl_append]; rfl
theorem bst_val (f : Nat → Nat) (l : List Nat) : bst f l ≤ 99 ∧ (∀ c ∈ l, bst f l ≤ f c) ∧ (bst f l = 99 ∨ ∃ c ∈ l, bst f l = f c) := by
  refine snoc_ind (P := fun l => bst f l ≤ 99 ∧ (∀ c ∈ l, bst f l ≤ f c) ∧ (bst f l = 99 ∨ ∃ c ∈ l, bst f l = f c)) ⟨Nat.le_refl _, (fun c h => by cases h), .inl rfl⟩ (fun l x ih => ?_) l
  obtain ⟨h1, h2, h3⟩ := ih
  rw [bst_snoc]
  split
  · rename_i hx
    refine ⟨by omega, fun c hc => ?_, .inr ⟨x, List.mem_append_right _ (List.mem_singleton.2 rfl), rfl⟩⟩
    rcases List.mem_append.1 hc with h | h
    · have := h2 c h; omega
    · rcases List.mem_singleton.1 h with rfl; exact Nat.le_refl _
  · rename_i hx
    refine ⟨h1, fun c hc => ?_, ?_⟩
    · rcases List.mem_append.1 hc with h | h
      · exact h2 c h
      · rcases List.mem_singleton.1 h with rfl; omega
    · rcases h3 with h | ⟨c, hc, h⟩
      · exact .inl h
      · exact .inr ⟨c, List.mem_append_left _ hc, h⟩
theorem bst_le (f : Nat → Nat) (l : List Nat) : bst f l ≤ 99 := (bst_val f l).1
theorem bst_best {f : Nat → Nat} {l : List Nat} (hl : l ≠ []) (hf : ∀ c ∈ l, f c < 99) : bst f l = bestL false (l.map f) := by
  obtain ⟨h1, h2, h3⟩ := bst_val f l
  refine (bestL_eq ?_ fun x hx => ?_).symm
  · rcases h3 with h | ⟨c, hc, h⟩
    · obtain ⟨c, hc⟩ := List.exists_mem_of_ne_nil l hl
      have := h2 c hc
      have := hf c hc
      omega
    · exact List.mem_map.2 ⟨c, hc, h.symm⟩
  · obtain ⟨c, hc, rfl⟩ := List.mem_map.1 hx
    exact h2 c hc
theorem worthM_le7 {sd tr q m : Nat} {fr : Bool} {ln : List Nat} {t : Tb} (hg : TbG q t) (hm : m + 1 + t.cs.length = 4 * q) (hq : q ≤ 4) {c : Nat} (hc : t.legal c = true) : worthM sd tr fr ln m t c ≤ 7 := by
  obtain ⟨q', hg', hq', hm'⟩ := hg.put tr hc hm
  have h1 := mn_le (sd := sd) (tr := tr) (line := ln) (fr := fr) m q' _ hg'.ok.pk hg'.ev hm'
  have h2 := (wonS_le sd tr t c).1
  unfold worthM
  omega
theorem list13 {l : List Value} (h : l.length = 13) : ∃ y0 y1 y2 y3 y4 y5 y6 y7 y8 y9 y10 y11 y12, l = [y0, y1, y2, y3, y4, y5, y6, y7, y8, y9, y10, y11, y12] := by
  match l, h with
  | [y0, y1, y2, y3, y4, y5, y6, y7, y8, y9, y10, y11, y12], _ => exact ⟨y0, y1, y2, y3, y4, y5, y6, y7, y8, y9, y10, y11, y12, rfl⟩
/-- the position after a card is put into a block of its own -/
def LxU (w1 : World) (k : Nat) (us : List Value) (W : World) : Prop := match us with
  | [] => True
  | [p] => ∃ b, p = .pointer (some ⟨b, 0, none⟩) ∧ w1.heap.size ≤ b ∧ (k < 4 → Row W b 62 zeroP)
  | _ => False
def LxS (w1 : World) (u : Tb) (tr ws : Nat) (vs us : List Value) (W : World) : Prop := Below w1.heap.size w1 W ∧ LxU w1 vs.length us W ∧ match vs with
  | [] => True
  | [r] => ∃ v, r = .tuple #[.agg (posA u.h tr u.ld v), .int .i64 (ws : Int)] ∧ OwnU W w1.heap.size v u.cs
  | [_, r] => ∃ v, r = .tuple #[.agg (posA u.h tr u.ld v), .int .i64 (ws : Int)] ∧ OwnU W w1.heap.size v u.cs
  | [_, r, x] => ∃ v, r = .tuple #[.agg (posA u.h tr u.ld v), .int .i64 (ws : Int)] ∧ x = .agg (posA u.h tr u.ld v) ∧ OwnU W w1.heap.size v u.cs
  | [_, r, x, _] => ∃ v, r = .tuple #[.agg (posA u.h tr u.ld v), .int .i64 (ws : Int)] ∧ x = .agg (posA u.h tr u.ld v) ∧ OwnU W w1.heap.size v u.cs ∧ ∃ b, us = [.pointer (some ⟨b, 0, none⟩)] ∧ w1.heap.size ≤ b ∧ Row W b 62 (posA u.h tr u.ld v)
  | _ => False
theorem LxU.below {w1 W W' : World} {us : List Value} {k : Nat} (h : LxU w1 k us W) (hb : Below W.heap.size W W') (hk : k < 4) (k' : Nat) : LxU w1 k' us W' := by
  match us, h with
  | [], _ => trivial
  | [_], ⟨b, e, h1, h2⟩ => exact ⟨b, e, h1, fun _ => (h2 hk).later hb⟩
theorem LxU.same {w1 W : World} {us : List Value} {k : Nat} (h : LxU w1 k us W) (hk : k < 4) (k' : Nat) : LxU w1 k' us W := by
  match us, h with
  | [], _ => trivial
  | [_], ⟨b, e, h1, h2⟩ => exact ⟨b, e, h1, fun _ => h2 hk⟩
theorem LxS.tup {w1 W : World} {u : Tb} {tr ws : Nat} {vs us : List Value} {y : Value} (h : LxS w1 u tr ws vs us W) (hy : vs[1]? = some y) : ∃ v, y = .tuple #[.agg (posA u.h tr u.ld v), .int .i64 (ws : Int)] := by
  obtain ⟨-, -, h⟩ := h
  match vs, h, hy with
  | [_, r], ⟨v, e, _⟩, hy => exact ⟨v, (Option.some.inj (show some r = some y from hy)).symm.trans e⟩
  | [_, r, _], ⟨v, e, _⟩, hy => exact ⟨v, (Option.some.inj (show some r = some y from hy)).symm.trans e⟩
  | [_, r, _, _], ⟨v, e, _⟩, hy => exact ⟨v, (Option.some.inj (show some r = some y from hy)).symm.trans e⟩
theorem LxS.al {w1 W : World} {u : Tb} {tr ws : Nat} {vs : List Value} (h : LxS w1 u tr ws vs [] W) : LxS w1 u tr ws vs [.pointer (some ⟨W.heap.size, 0, none⟩)] (W.alloc (.cells zeroP 62)) := by
  obtain ⟨hb, -, hv⟩ := h
  refine ⟨hb.alloc hb.size _, ⟨_, rfl, hb.size, fun _ => Row.new W _ _⟩, ?_⟩
  match vs, hv with
  | [], _ => trivial
  | [_], ⟨v, e, h⟩ => exact ⟨v, e, h.alloc _⟩
  | [_, _], ⟨v, e, h⟩ => exact ⟨v, e, h.alloc _⟩
  | [_, _, _], ⟨v, e, e2, h⟩ => exact ⟨v, e, e2, h.alloc _⟩
  | [_, _, _, _], ⟨_, _, _, _, _, e, _⟩ => cases e
/-- the reference's least, of tables with m cards to come -/
def LeastOk (sd tr : Nat) (fr : Bool) (ln : List Nat) (m : Nat) : Prop := ∀ (q : Nat) (t : Tb), PosT q t → m + t.cs.length = 4 * q → q ≤ 4 → ∀ (a : Option Addr) (cap : Nat) (la : Option Addr) (nl lcap : Nat) (w : World), Byt w a t.cs.length t.cs → Byt w la nl ln →
    Calls Tryd.prog 59 #[.agg (posA t.h tr t.ld (.slice a t.cs.length cap)), .int .u8 (sd : Int), .slice la nl lcap, .bool fr] w fun e w' => e = .returned (.int .i64 (mn sd tr fr ln m t : Int)) ∧ Below w.heap.size w w'
set_option maxHeartbeats 4000000 in
set_option maxRecDepth 10000 in
theorem least_zero (sd tr : Nat) (fr : Bool) (ln : List Nat) : LeastOk sd tr fr ln 0 := by
  intro q T hPO hm hq a cap la nl lcap w hz hl
  have hlen := hPO.ok.pk.2
  obtain rfl : q = 0 := by omega
  have HNO : Hid (T.cards.length = 0) := Lib.hid (by
    rw [List.length_eq_zero_iff]
    refine List.filter_eq_nil_iff.2 fun c _ hh => ?_
    have h1 := (legal_iff.1 hh).1
    have h2 := hPO.evn.turn hlen
    have h3 := pop_some (show c < 64 from by have := hPO.ok.pk.1 _ T.turn_lt _ h1; omega) h1
    omega)
  have HLE := Lib.hid (fun W hzW => cr_legal T.h tr T.ld T.cs a cap hPO.ok.w64 (by have := hPO.ok.ld; omega) W hzW)
  have HYZ := Lib.hid hz
  have hte : Tb.mk T.h T.ld T.cs = T := rfl
  rw [hte] at HLE
  obtain ⟨PA, hPA⟩ : ∃ A, posA T.h tr T.ld (.slice a T.cs.length cap) = A := ⟨_, rfl⟩
  have HPZ : Hid (PA.size = 7) := Lib.hid (by rw [← hPA]; rfl)
  rw [hPA] at HLE ⊢
  have HR1 := Lib.hid (Row.new w 62 PA)
  have HB1 := Lib.hid ((Below.refl w.heap.size w).alloc (Nat.le_refl _) (.cells PA 62))
  have HY1 := Lib.hid (hz.below (Nat.le_refl _) HB1.out)
  have HM0 : Hid (mn sd tr fr ln 0 T = 0) := Lib.hid rfl
  obtain ⟨V, hV⟩ : ∃ x, mn sd tr fr ln 0 T = x := ⟨_, rfl⟩
  rw [hV] at HM0 ⊢
  clear hPA hte hz hl hPO hm hlen hV
  go_enter Tryd.func59, Tryd.ntmps59
  go_upto_region 1 with fail
  generalize w.alloc (.cells PA 62) = w1 at *
  go_wp2_with (refine wpList_load_row rfl 62 (.tmp 4) rfl w.heap.size rfl 62 PA (0, 0) _ HR1.out Tryd.underlying62 rfl (by rw [HPZ.out]; exact size_rpos) ?_)
  refine (HLE.out _ HY1.out).mono ?_
  rintro e w2 ⟨v, rfl, hown, hb2⟩
  have HB2 := Lib.hid (HB1.out.trans (hb2.mono HB1.out.size))
  obtain ⟨va, vc, rfl, -⟩ := hown.slice
  rw [HNO.out]
  clear hb2 hown
  go_wp2_with fail
  go_ret
  exact ⟨by rw [HM0.out]; rfl, HB2.out⟩
set_option maxHeartbeats 4000000 in
set_option maxRecDepth 10000 in
theorem least_step (sd tr : Nat) (fr : Bool) (ln : List Nat) (htr : tr < 256) (hsd : sd < 2) (m : Nat) (IH : LeastOk sd tr fr ln m) : LeastOk sd tr fr ln (m + 1) := by
  intro q T hPO hm hq a cap la nl lcap w hz hl
  have hlen := hPO.ok.pk.2
  have hcn := cards_some hPO.ok hPO.evn (show 0 < q by omega)
  have h0 : canM T ≠ 0 := hPO.tg.can (by omega)
  have HPO := Lib.hid hPO
  have HM := Lib.hid hm
  have HQ4 := Lib.hid hq
  have HTR := Lib.hid htr
  have HSD := Lib.hid hsd
  have HW7 := Lib.hid (fun c (hc : T.legal c = true) => worthM_le7 (sd := sd) (tr := tr) (fr := fr) (ln := ln) hPO.tg hm hq hc)
  have HLE := Lib.hid (fun W hzW => cr_legal T.h tr T.ld T.cs a cap hPO.ok.w64 (by have := hPO.ok.ld; omega) W hzW)
  have HTU := Lib.hid (fun W => dr_Turn T.h tr T.ld T.cs.length a cap (by have := hPO.ok.ld; omega) (by omega) W)
  have HNX := Lib.hid (fun W hzW hlW => cr_next T.h tr T.ld T.cs a cap ln la nl lcap hPO.ok h0 W hzW hlW)
  have HMN : Hid (mnL sd fr ln T = if T.turn % 2 = sd ∧ fr = false then [lineC ln T] else T.cards) := Lib.hid (by unfold mnL; rw [(lineM_one hPO.ok h0 ln).2])
  have HMG := Lib.hid (fun c (hc : c ∈ mnL sd fr ln T) => mnL_legal hc)
  have HCN0 : Hid (T.cards.length ≠ 0) := Lib.hid fun e => hcn (List.length_eq_zero_iff.1 e)
  have HC52 : Hid (T.cards.length ≤ 52) := Lib.hid (by unfold Tb.cards; exact Nat.le_trans (List.length_filter_le _ _) (by rw [List.length_range]; exact Nat.le_refl _))
  have hte : Tb.mk T.h T.ld T.cs = T := rfl
  have htu : (T.ld + T.cs.length) % 4 = T.turn := rfl
  rw [hte] at HLE HNX
  rw [htu] at HTU
  obtain ⟨PA, hPA⟩ : ∃ A, posA T.h tr T.ld (.slice a T.cs.length cap) = A := ⟨_, rfl⟩
  have HPZ : Hid (PA.size = 7) := Lib.hid (by rw [← hPA]; rfl)
  have hPAE := Lib.hid hPA
  rw [hPA] at HLE HTU HNX ⊢
  have HR1 := Lib.hid (Row.new w 62 PA)
  have HB1 := Lib.hid ((Below.refl w.heap.size w).alloc (Nat.le_refl _) (.cells PA 62))
  have HYZ := Lib.hid hz
  have HLY := Lib.hid hl
  have ht4 := T.turn_lt
  obtain ⟨s, hs⟩ : ∃ z, T.turn = z := ⟨_, rfl⟩
  rw [hs] at HTU HMN ht4
  obtain ⟨rr, hrr⟩ : ∃ z, s % 2 = z := ⟨_, rfl⟩
  rw [hrr] at HMN
  have hm1 : (s : Int).tmod 2 = (rr : Int) := by rw [Int.tmod_eq_emod_of_nonneg (by omega)]; omega
  have hm2 : (s : Int) % 2 = (rr : Int) := by omega
  clear hPA hz hl hte htu hs hrr hPO hm hq htr hcn h0 hlen
  go_enter Tryd.func59, Tryd.ntmps59
  go_upto_region 1 with fail
  generalize w.alloc (.cells PA 62) = w1 at *
  obtain ⟨b4, hb4⟩ : ∃ b, w.heap.size = b := ⟨_, rfl⟩
  have HB4 := Lib.hid hb4
  rw [hb4] at HR1 ⊢
  clear hb4
  go_wp2_with (refine wpList_load_row rfl 62 (.tmp 4) rfl b4 rfl 62 PA (0, 0) _ HR1.out Tryd.underlying62 rfl (by rw [HPZ.out]; exact size_rpos) ?_)
  refine (HLE.out _ (HYZ.out.below (Nat.le_refl _) HB1.out)).mono ?_
  rintro e w2 ⟨v, rfl, hown, hb2⟩
  have HR2 := Lib.hid (HR1.out.later hb2)
  have HB2 := Lib.hid (HB1.out.trans (hb2.mono HB1.out.size))
  have HB1S : Hid (w.heap.size ≤ w1.heap.size) := Lib.hid HB1.out.size
  have HOW := Lib.hid hown
  rcases hown.form with ⟨-, h0⟩ | ⟨gv, vc, rfl, hg1, hg2, -⟩
  · exact absurd (by rw [h0]; rfl) HCN0.out
  obtain ⟨NC, hNC⟩ : ∃ z, T.cards.length = z := ⟨_, rfl⟩
  have HNC := Lib.hid hNC
  rw [hNC] at HCN0 HC52 HOW ⊢
  have hnc0 := HCN0.out
  have hnc52 := HC52.out
  have hnb : ((NC : Int) == 0) = false := by rw [beq_eq_false_iff_ne]; omega
  clear hb2 hown hNC hg1 HR1 HB1
  go_upto_region 4 with fail
  clear hnb
  obtain ⟨bb, hbb⟩ : ∃ b : Bool, (((rr : Int) == (sd : Int)) && !fr) = b := ⟨_, rfl⟩
  go_cut [29] from 20 to 28 (fun t W => t = .bool bb ∧ Row W b4 62 PA ∧ OwnI W w.heap.size (.slice (some ⟨gv, 0, none⟩) NC vc) T.cards ∧ gv < W.heap.size ∧ Below w.heap.size w W)
  case first =>
    go_wp2_with (refine wpList_load_row rfl 62 (.tmp 4) rfl b4 rfl 62 PA (0, 0) _ HR2.out Tryd.underlying62 rfl (by rw [HPZ.out]; exact size_rpos) ?_)
    refine (HTU.out w2).mono ?_
    rintro e w3 ⟨rfl, hb3⟩
    have HFIN : Hid (Row w3 b4 62 PA ∧ OwnI w3 w.heap.size (.slice (some ⟨gv, 0, none⟩) NC vc) T.cards ∧ gv < w3.heap.size ∧ Below w.heap.size w w3) := Lib.hid ⟨HR2.out.later hb3, (Owns.below HOW.out hb3).mono HB1S.out, Nat.lt_of_lt_of_le hg2 hb3.size, HB2.out.trans (hb3.mono HB2.out.size)⟩
    clear hb3 HR2 HB2 HOW hg2
    cases hrq : ((rr : Int) == (sd : Int))
    · have hb0 : bb = false := by rw [← hbb, hrq]; rfl
      subst hb0
      clear hbb
      go_wp2_with fail
      go_meet
      exact ⟨rfl, HFIN.out⟩
    · have hb0 : bb = !fr := by rw [← hbb, hrq]; rfl
      subst hb0
      clear hbb
      go_wp2_with fail
      go_meet
      exact ⟨rfl, HFIN.out⟩
  obtain ⟨rfl, hr3, ho3, hg3, hb3⟩ := hcut
  have HR3 := Lib.hid hr3
  have HO3 := Lib.hid ho3
  have HG3 := Lib.hid hg3
  have HB3 := Lib.hid hb3
  clear hr3 ho3 hg3 hb3 HR2 HB2 HOW hg2 hm1 hm2
  generalize wc = w3 at *
  go_upto_if 29 with fail
  go_cut [9] from 30 to 33 (fun v W => ∃ (gL vc : Nat), v = .slice (some ⟨gL, 0, none⟩) (mnL sd fr ln T).length vc ∧ gL < W.heap.size ∧ (∀ (i x : Nat), (mnL sd fr ln T)[i]? = some x → W.cell? ⟨gL, i, none⟩ = some (.int .i64 (x : Int))) ∧ Row W b4 62 PA ∧ Below w.heap.size w W)
  case first =>
    cases bb
    · have hby : ¬ (rr = sd ∧ fr = false) := by rintro ⟨h1, h2⟩; rw [h1, h2] at hbb; simp at hbb
      have HML := Lib.hid (HMN.out.trans (if_neg hby))
      have HFIN : Hid (∃ (gL vc' : Nat), Value.slice (some ⟨gv, 0, none⟩) NC vc = .slice (some ⟨gL, 0, none⟩) (mnL sd fr ln T).length vc' ∧ gL < w3.heap.size ∧ (∀ (i x : Nat), (mnL sd fr ln T)[i]? = some x → w3.cell? ⟨gL, i, none⟩ = some (.int .i64 (x : Int))) ∧ Row w3 b4 62 PA ∧ Below w.heap.size w w3) := Lib.hid ⟨gv, vc, by rw [HML.out, HNC.out], HG3.out, fun i x hx => by
        rw [HML.out] at hx
        have := HO3.out.cell i 0 (by decide) hx
        rw [Nat.mul_one, Nat.add_zero] at this
        exact this, HR3.out, HB3.out⟩
      clear hby hbb HO3 HG3 HR3 HB3
      go_wp2_with fail
      go_meet
      exact HFIN.out
    · have hby : rr = sd ∧ fr = false := by
        rw [Bool.and_eq_true, beq_iff_eq, Bool.not_eq_true'] at hbb
        exact ⟨by omega, hbb.2⟩
      have HML := Lib.hid (HMN.out.trans (if_pos hby))
      obtain ⟨c, hc⟩ : ∃ z, lineC ln T = z := ⟨_, rfl⟩
      rw [hc] at HNX HML
      clear hc hby hbb
      go_wp2_with (refine wpList_load_row rfl 62 (.tmp 4) rfl b4 rfl 62 PA (0, 0) _ HR3.out Tryd.underlying62 rfl (by rw [HPZ.out]; exact size_rpos) ?_)
      refine (HNX.out w3 (HYZ.out.below (Nat.le_refl _) HB3.out) (HLY.out.below (Nat.le_refl _) HB3.out)).mono ?_
      rintro e w4 ⟨rfl, hb4⟩
      have HNR := Lib.hid (Row.new w4 3 #[.int .i64 (c : Int)])
      have ha := (Below.refl w4.heap.size w4).alloc (Nat.le_refl _) (.cells #[.int .i64 (c : Int)] 3)
      have hbb := hb4.trans (ha.mono hb4.size)
      have HRS := Lib.hid (HR3.out.later hbb)
      have HBT := Lib.hid (HB3.out.trans (hbb.mono HB3.out.size))
      clear hb4 ha hbb HR3 HB3 HO3 HG3
      go_wp2_with fail
      go_meet
      refine ⟨w4.heap.size, 1, by rw [HML.out]; rfl, HNR.out.lt, fun i x hx => ?_, HRS.out, HBT.out⟩
      rw [HML.out] at hx
      obtain rfl : i = 0 := by
        have := (List.getElem?_eq_some_iff.1 hx).1
        simp at this; exact this
      rw [← Option.some.inj (show some c = some x from hx)]
      exact HNR.out.cell 0
  obtain ⟨gL, vc2, rfl, hgL, hLC, hRS, hBT⟩ := hcut
  have HRS := Lib.hid hRS
  have HBT := Lib.hid hBT
  have HGL := Lib.hid hgL
  have HLC := Lib.hid hLC
  clear hRS hBT hgL hLC
  generalize wc = wS at *
  obtain ⟨L, hL⟩ : ∃ L, mnL sd fr ln T = L := ⟨_, rfl⟩
  have HLL : Hid (L = mnL sd fr ln T) := Lib.hid hL.symm
  have HLG : Hid (∀ c ∈ L, T.legal c = true) := Lib.hid fun c hc => HMG.out c (by rw [hL]; exact hc)
  have HL0 : Hid (L ≠ [] ∧ L.length ≤ 52) := Lib.hid (by
    rw [← hL, HMN.out]
    split
    · exact ⟨by simp, by simp⟩
    · exact ⟨fun e => by have := HNC.out; rw [e] at this; simp at this; omega, by rw [HNC.out]; exact hnc52⟩)
  rw [hL] at HLC ⊢
  obtain ⟨N, hN⟩ : ∃ N, L.length = N := ⟨_, rfl⟩
  have HLN := Lib.hid hN
  have hn52 : N ≤ 52 := by rw [← hN]; exact HL0.out.2
  have HN0 : Hid (0 < N) := Lib.hid (by rw [← hN]; exact List.length_pos_iff.2 HL0.out.1)
  rw [hN]
  clear hL hN hnc0 hnc52
  go_upto_region 8 with fail
  try dsimp only [Act.put]
  go_loopg [10, 11] N (fun g bv iv wr => ∃ (i : Nat), g = N - i ∧ i ≤ N ∧ iv = .int .i64 (i : Int) ∧ bv = .int .i64 (bst (worthM sd tr fr ln m T) (L.take i) : Int) ∧ Row wr b4 62 PA ∧ Below wS.heap.size wS wr)
  case atStart => exact ⟨0, rfl, by omega, rfl, rfl, HRS.out, Below.refl _ _⟩
  case round =>
    obtain ⟨i, rfl, hi, rfl, rfl, hrow, hbs⟩ := hrel
    have HRW := Lib.hid hrow
    have HBS := Lib.hid hbs
    have HBW := Lib.hid (HBT.out.trans (hbs.mono HBT.out.size))
    have HYW := Lib.hid (HYZ.out.below (Nat.le_refl _) HBW.out)
    have HLW := Lib.hid (HLY.out.below (Nat.le_refl _) HBW.out)
    clear hrow hbs
    by_cases hlt : i < N
    · have hdk : decide (i < N) = true := by simp; omega
      have hin : (i : Int) < (N : Int) := by omega
      obtain ⟨c, hci⟩ : ∃ c, L[i]? = some c := ⟨_, List.getElem?_eq_getElem (by rw [HLN.out]; exact hlt)⟩
      have hmem : c ∈ L := List.mem_of_getElem? hci
      have hleg := HLG.out c hmem
      have ek : wr.cell? ⟨gL, i, none⟩ = some (.int .i64 (c : Int)) := (HBS.out.cell (p := ⟨gL, i, none⟩) HGL.out).trans (HLC.out i c hci)
      have rk := fun dd os => cell_regrown ek dd os
      have HBI : Hid (bst (worthM sd tr fr ln m T) (L.take (i + 1)) = if worthM sd tr fr ln m T c < bst (worthM sd tr fr ln m T) (L.take i) then worthM sd tr fr ln m T c else bst (worthM sd tr fr ln m T) (L.take i)) := Lib.hid (by rw [List.take_add_one, hci]; exact bst_snoc _ _ _)
      have HLE7 : Hid (worthM sd tr fr ln m T c ≤ 7) := Lib.hid (HW7.out c hleg)
      have HAFT := Lib.hid (fun W hzW => cr_after T HPO.out.ok HPO.out.uniq tr sd c HTR.out HSD.out hleg a cap W hzW)
      obtain ⟨q2, hp2, hq2, -, hk2⟩ := HPO.out.put tr (cards_pk HPO.out.ok.pk hleg)
      have HREC := Lib.hid (fun a2 cap2 W hzW hlW => IH q2 (T.put tr c).1 hp2 (hk2 m HM.out) (Nat.le_trans hq2 HQ4.out) a2 cap2 la nl lcap W hzW hlW)
      have HOKU : Hid (TbOk (T.put tr c).1) := Lib.hid hp2.ok
      have HWE : Hid (worthM sd tr fr ln m T c = wonS sd tr T c + mn sd tr fr ln m (T.put tr c).1) := Lib.hid rfl
      obtain ⟨u, hue⟩ : ∃ u, (T.put tr c).1 = u := ⟨_, rfl⟩
      obtain ⟨ws, hws⟩ : ∃ x, wonS sd tr T c = x := ⟨_, rfl⟩
      obtain ⟨mv, hmv⟩ : ∃ x, mn sd tr fr ln m u = x := ⟨_, rfl⟩
      rw [hue, hws] at HAFT
      rw [hue] at HREC HOKU
      rw [hws, hue, hmv] at HWE
      simp only [hmv] at HREC
      rw [hPAE.out] at HAFT
      obtain ⟨wv, hwv⟩ : ∃ x, worthM sd tr fr ln m T c = x := ⟨_, rfl⟩
      obtain ⟨B, hB⟩ : ∃ x, bst (worthM sd tr fr ln m T) (L.take i) = x := ⟨_, rfl⟩
      rw [hwv] at HLE7 HWE HBI
      rw [hB] at HBI ⊢
      have HB99 : Hid (B ≤ 99) := Lib.hid (by rw [← hB]; exact bst_le _ _)
      have HGW : Hid (gL < wr.heap.size) := Lib.hid (Nat.lt_of_lt_of_le HGL.out HBS.out.size)
      clear hp2 hq2 hk2 hue hws hmv hwv hB hci hmem hleg
      go_upto_region 10 with fail
      refine wp_region_reliesT (ChF [.agg PA, .slice (some ⟨gL, 0, none⟩) N vc2, .int .i64 (i : Int), .pointer (some ⟨gL, i, none⟩), .int .i64 (c : Int), .int .u8 (sd : Int), undef, undef, undef, .int .i64 (ws : Int), undef, undef, .int .i64 (ws : Int)] [6, 7, 8, 11] [10] (LxS wr u tr ws)) (fun _ => true) (by kernel_rfl) (by kernel_rfl) (by kernel_rfl) (by kernel_rfl) (ChF.start ⟨(Below.refl _ _).drew, trivial, trivial⟩) ?obls ?fini
      case obls =>
        refine ⟨⟨?_, ?_⟩, ⟨?_, ?_⟩, ⟨?_, ?_⟩, ⟨?_, ?_⟩, ⟨?_, ?_⟩, ⟨?_, ?_⟩, ⟨?_, ?_⟩, ⟨?_, ?_⟩, ⟨?_, ?_⟩, ⟨?_, ?_⟩, ⟨?_, ?_⟩, ⟨?_, ?_⟩, ⟨?_, ?_⟩, trivial⟩
        · rfl
        · rintro ρ f W ⟨vs, us, hX⟩ hfi hw hcl hf
          have f4 : ρ (.tmp 4) = .pointer (some ⟨b4, 0, none⟩) := hf.1 4 (by simp [Op.operands])
          exact ok_value (exec_load_row 62 (.tmp 4) rfl b4 f4 (HRW.out.later hX.st.1) Tryd.underlying62 rfl (by rw [HPZ.out]; exact size_rpos)) (hX.pure 0 _ (by decide) (by decide) rfl hX.st)
        · rfl
        · rintro ρ f W ⟨vs, us, hX⟩ hfi hw hcl hf
          have f9 : ρ (.tmp 9) = .slice (some ⟨gL, 0, none⟩) N vc2 := hf.1 9 (by simp [Op.operands])
          exact ok_value (v := .slice (some ⟨gL, 0, none⟩) N vc2) (w' := W) (by simp [execOp, f9]) (hX.pure 1 _ (by decide) (by decide) rfl hX.st)
        · rfl
        · rintro ρ f W ⟨vs, us, hX⟩ hfi hw hcl hf
          have f11 : ρ (.tmp 11) = .int .i64 (i : Int) := hf.1 11 (by simp [Op.operands])
          exact ok_value (v := .int .i64 (i : Int)) (w' := W) (by simp [execOp, f11]) (hX.pure 2 _ (by decide) (by decide) rfl hX.st)
        · rfl
        · rintro ρ f W ⟨vs, us, hX⟩ hfi hw hcl hf
          have f42 : ρ (.tmp 42) = .slice (some ⟨gL, 0, none⟩) N vc2 := hX.val 1 _ _ (by decide) (by decide) (hf.1 42 (by simp [Op.operands])) rfl
          have f43 : ρ (.tmp 43) = .int .i64 (i : Int) := hX.val 2 _ _ (by decide) (by decide) (hf.1 43 (by simp [Op.operands])) rfl
          exact ok_value (v := .pointer (some ⟨gL, i, none⟩)) (w' := W) (by simp [execOp, f42, f43, go_sem, hin]) (hX.pure 3 _ (by decide) (by decide) rfl hX.st)
        · rfl
        · rintro ρ f W ⟨vs, us, hX⟩ hfi hw hcl hf
          have f44 : ρ (.tmp 44) = .pointer (some ⟨gL, i, none⟩) := hX.val 3 _ _ (by decide) (by decide) (hf.1 44 (by simp [Op.operands])) rfl
          have ck := (hX.st.1.cell (p := ⟨gL, i, none⟩) HGW.out).trans ek
          exact ok_value (v := .int .i64 (c : Int)) (w' := W) (by simp [execOp, f44, go_sem, ck]) (hX.pure 4 _ (by decide) (by decide) rfl hX.st)
        · rfl
        · rintro ρ f W ⟨vs, us, hX⟩ hfi hw hcl hf
          have f1 : ρ (.tmp 1) = .int .u8 (sd : Int) := hf.1 1 (by simp [Op.operands])
          exact ok_value (v := .int .u8 (sd : Int)) (w' := W) (by simp [execOp, f1]) (hX.pure 5 _ (by decide) (by decide) rfl hX.st)
        · rfl
        · rintro ρ f W ⟨vs, us, hX⟩ hfi hw hcl hf
          have f41 : ρ (.tmp 41) = .agg PA := hX.val 0 _ _ (by decide) (by decide) (hf.1 41 (by simp [Op.operands, Call.operands])) rfl
          have f45 : ρ (.tmp 45) = .int .i64 (c : Int) := hX.val 4 _ _ (by decide) (by decide) (hf.1 45 (by simp [Op.operands, Call.operands])) rfl
          have f46 : ρ (.tmp 46) = .int .u8 (sd : Int) := hX.val 5 _ _ (by decide) (by decide) (hf.1 46 (by simp [Op.operands, Call.operands])) rfl
          have hl := hX.le1 0 6 rfl hfi
          obtain rfl := list0 hl
          obtain ⟨hbe, hus, -⟩ := hX.st
          refine ok_call (f := 62) (args := #[.agg PA, .int .i64 (c : Int), .int .u8 (sd : Int)]) ?_ ?_
          · simp [execOp, f41, f45, f46, hf.2.2.2, go_sem]
          refine (HAFT.out W (HYW.out.below (Nat.le_refl _) hbe)).mono ?_
          rintro e w9 ⟨v, rfl, hov, hb9⟩
          exact ⟨_, rfl, hX.step1 6 _ rfl (by decide) (by decide) ⟨hbe.trans (hb9.mono hbe.size), hus.below hb9 (show _ < 4 from by simp) _, v, rfl, hov.mono hbe.size⟩⟩
        · rfl
        · rintro ρ f W ⟨vs, us, hX⟩ hfi hw hcl hf
          have g47 := hX.get1 0 6 rfl (hf.1 47 (by simp [Op.operands]))
          have hl := hX.le1 1 7 rfl hfi
          obtain ⟨p, rfl⟩ : ∃ p, vs = [p] := ⟨_, list1 hl g47⟩
          obtain ⟨hbe, hus, v, hv, hov⟩ := hX.st
          have f47 : ρ (.tmp 47) = p := (Option.some.inj (show some p = some (ρ (.tmp 47)) from g47)).symm
          exact ok_value (v := p) (w' := W) (by simp [execOp, f47]) (hX.step1 7 _ rfl (by decide) (by decide) ⟨hbe, hus.same (show _ < 4 from by simp) _, v, hv, hov⟩)
        · rfl
        · rintro ρ f W ⟨vs, us, hX⟩ hfi hw hcl hf
          have g40 := hX.get1 1 7 rfl (hf.1 40 (by simp [Op.operands]))
          have hl := hX.le1 2 8 rfl hfi
          obtain ⟨p0, rfl⟩ := list2 hl g40
          obtain ⟨hbe, hus, v, hv, hov⟩ := hX.st
          exact ok_value (v := .agg (posA u.h tr u.ld v)) (w' := W) (by simp [execOp, hv, go_sem]) (hX.step1 8 _ rfl (by decide) (by decide) ⟨hbe, hus.same (show _ < 4 from by simp) _, v, hv, rfl, hov⟩)
        · rfl
        · rintro ρ f W ⟨vs, us, hX⟩ hfi hw hcl hf
          have g40 := hX.get1 1 7 rfl (hf.1 40 (by simp [Op.operands]))
          obtain ⟨v, hv⟩ := LxS.tup hX.st g40
          exact ok_value (v := .int .i64 (ws : Int)) (w' := W) (by simp [execOp, hv, go_sem]) (hX.pure 9 _ (by decide) (by decide) rfl hX.st)
        · rfl
        · rintro ρ f W ⟨vs, us, hX⟩ hfi hw hcl hf
          have hl := hX.le2 0 10 rfl hfi
          obtain rfl := list0 hl
          refine ok_value (v := .pointer (some ⟨W.heap.size, 0, none⟩)) (w' := W.alloc (.cells zeroP 62)) (by simp [execOp, go_sem]) ?_
          exact hX.step2 10 _ rfl (by decide) (by decide) (LxS.al hX.st)
        · rfl
        · rintro ρ f W ⟨vs, us, hX⟩ hfi hw hcl hf
          have g12 := hX.get2 0 10 rfl (hf.1 12 (by simp [Op.operands]))
          have g48 := hX.get1 2 8 rfl (hf.1 48 (by simp [Op.operands]))
          have hl := hX.le1 3 11 rfl hfi
          obtain ⟨p0, p1, rfl⟩ := list3 hl g48
          obtain ⟨hbe, hus, v, hv, hx, hov⟩ := hX.st
          obtain ⟨ub, rfl⟩ : ∃ u, us = [u] := ⟨_, list1 hX.l2 g12⟩
          obtain ⟨b, rfl, hlo, hrow⟩ := hus
          have hr := hrow (by simp)
          have f12 : ρ (.tmp 12) = .pointer (some ⟨b, 0, none⟩) := (Option.some.inj (show some (Value.pointer (some ⟨b, 0, none⟩)) = some (ρ (.tmp 12)) from g12)).symm
          obtain ⟨ua, uc, rfl, -⟩ := OwnU.playedX hov HOKU.out
          have hz1 := posA_one u.h tr u.ld ua u.cs.length uc
          refine ok_skip (exec_store_row 62 (.tmp 12) (.tmp 48) rfl b (posA u.h tr u.ld (.slice ua u.cs.length uc)) f12 hx hr (by rw [hz1.1]; exact size_rpos) (by rw [hz1.1]; rfl) hz1.2) ?_
          exact hX.step1 11 _ rfl (by decide) (by decide) ⟨below_setRow hbe hlo _, ⟨b, rfl, hlo, fun h => absurd h (by simp)⟩, _, hv, hx, Owns.kept hov (grownBy_row W b _) (.inl (own_apart hov hr (by decide))), b, rfl, hlo, setRow_heap _ _ _ _ _ _ hr⟩
        · rfl
        · rintro ρ f W ⟨vs, us, hX⟩ hfi hw hcl hf
          have f49 : ρ (.tmp 49) = .int .i64 (ws : Int) := hX.val 9 _ _ (by decide) (by decide) (hf.1 49 (by simp [Op.operands])) rfl
          exact ok_value (v := .int .i64 (ws : Int)) (w' := W) (by simp [execOp, f49]) (hX.pure 12 _ (by decide) (by decide) rfl hX.st)
      case fini =>
      rintro us w6 hlen ⟨vs, us', hX⟩
      have hl0 : us.length = 13 := hlen
      obtain ⟨y0, y1, y2, y3, y4, y5, y6, y7, y8, y9, y10, y11, y12, rfl⟩ := list13 hl0
      obtain rfl : y12 = _ := hX.val 12 _ _ (by decide) (by decide) rfl rfl
      obtain ⟨p0, p1, p2, rfl⟩ := list4 hX.l1 (hX.get1 3 11 rfl rfl)
      obtain ⟨hbe, -, v, -, -, hov, b12, hus, hlo, hrow⟩ := hX.st
      subst hus
      obtain rfl : y10 = .pointer (some ⟨b12, 0, none⟩) := (Option.some.inj (hX.get2 0 10 rfl rfl)).symm
      obtain ⟨ua, uc, rfl, hyu⟩ := OwnU.playedX hov HOKU.out
      have HUZ := Lib.hid (posA_one u.h tr u.ld ua u.cs.length uc)
      have HRC := Lib.hid (fun W hzW hlW => HREC.out ua uc W hzW hlW)
      have HQ12 := Lib.hid hrow
      obtain ⟨QA, hQA⟩ : ∃ A, posA u.h tr u.ld (.slice ua u.cs.length uc) = A := ⟨_, rfl⟩
      rw [hQA] at HUZ HRC HQ12
      have HR6 := Lib.hid (HRW.out.later hbe)
      have HB6 := Lib.hid (HBS.out.trans (hbe.mono HBS.out.size))
      have HY6 := Lib.hid hyu
      have HL6 := Lib.hid (HLW.out.below (Nat.le_refl _) hbe)
      clear hX hlen hbe hov hlo hrow hyu hQA rk HRW HBS HBW HYW HLW HAFT hl0
      simp only [putAll, List.zip_cons_cons, List.zip_nil_right, List.foldl_cons, List.foldl_nil]
      simp only [Act.put, List.setIfInBounds_toArray, List.set_cons_succ, List.set_cons_zero]
      go_wp2_with (refine wpList_load_row rfl 62 (.tmp 12) rfl b12 rfl 62 QA (0, 0) _ HQ12.out Tryd.underlying62 rfl (by rw [HUZ.out.1]; exact size_rpos) ?_)
      refine (HRC.out w6 HY6.out HL6.out).mono ?_
      rintro e w7 ⟨rfl, hb7⟩
      have HR7 := Lib.hid (HR6.out.later hb7)
      have HB7 := Lib.hid (HB6.out.trans (hb7.mono HB6.out.size))
      have hwe := HWE.out
      have hle7 := HLE7.out
      have hb99 := HB99.out
      have hsumI : (ws : Int) + (mv : Int) = (wv : Int) := by omega
      clear hwe hb7 HR6 HB6 HY6 HL6 HRC
      by_cases hwb : wv < B
      · have hd : decide (wv < B) = true := by simp; omega
        have HB2 := Lib.hid (HBI.out.trans (if_pos hwb))
        clear hwb
        go_wp2_with fail
        go_roundg (N - (i + 1))
        case measure => omega
        case rel => exact ⟨i + 1, rfl, by omega, by go_num, by rw [HB2.out], HR7.out, HB7.out⟩
      · have hd : decide (wv < B) = false := by simp; omega
        have HB2 := Lib.hid (HBI.out.trans (if_neg hwb))
        clear hwb
        go_wp2_with fail
        go_roundg (N - (i + 1))
        case measure => omega
        case rel => exact ⟨i + 1, rfl, by omega, by go_num, by rw [HB2.out], HR7.out, HB7.out⟩
    · have hiN : i = N := by omega
      have hdk : decide (i < N) = false := by simp <;> omega
      have hdkI : decide ((i : Int) < (N : Int)) = false := by simp <;> omega
      have HF : Hid (bst (worthM sd tr fr ln m T) (L.take i) = mn sd tr fr ln (m + 1) T) := Lib.hid (by
        rw [List.take_of_length_le (by rw [HLN.out]; omega), mn_succ, ← HLL.out, bst_best (by intro e; have h1 := HLN.out; rw [e] at h1; have h2 := HN0.out; have h3 : ([] : List Nat).length = 0 := rfl; omega) (fun c hc => by have := HW7.out c (HLG.out c hc); omega)])
      clear hiN
      go_wp2_with fail
      go_ret
      exact ⟨by rw [← HF.out]; rfl, HBW.out⟩
theorem cr_least (sd tr : Nat) (fr : Bool) (ln : List Nat) (htr : tr < 256) (hsd : sd < 2) : ∀ m, LeastOk sd tr fr ln m
  | 0 => least_zero sd tr fr ln
  | m + 1 => least_step sd tr fr ln htr hsd m (cr_least sd tr fr ln htr hsd m)
end Go.Proofs.YtnbillhodbcfbaaDoor
