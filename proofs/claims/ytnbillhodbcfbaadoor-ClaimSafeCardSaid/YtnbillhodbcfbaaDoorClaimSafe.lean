/- ClaimSafe over this seat's program. -/
import Derived.Test.YtnbillhodbcfbaaDoorMCls
import Derived.Test.YtnbillhodbcfbaaDoorDmPk
namespace Go.Proofs.YtnbillhodbcfbaaDoor
open Go.RowKit Go.Sort Go.Shelf Go.Maps Go.WideMaps

theorem wpList_load_row_gX {P : Program} {ops : Array Oper} {rest : List Oper} {o : Oper} {a : Act} {w : World} {Q : Exit → Act → World → Prop} (hw : Region.wanted o (yielded ops a.tmps) = true) (ty : TypeId) (x : Operand) (ho : o.op = .load ty x)
    (g : Nat) (hx : a.eval x = .pointer (some ⟨g, 0, none⟩)) (t : TypeId) (cs : Array Value) (fr : Nat × Nat) (d : TypeDesc) (hg : w.heap[g]? = some (.cells cs t fr))
    (hu : P.underlying ty = some d) (hd : (match d with | .struct _ | .array _ _ => true | _ => false) = true) (hi : (P.info? ty).map (·.size) = some cs.size)
    (h : wpList P ops Q rest (a.put o.dst (.agg cs)) w) : wpList P ops Q (o :: rest) a w :=
  wpList_step fun K hK => by rw [if_pos hw]; exact wp_load_row ty x ho g hx t cs fr d hg hu hd hi (hK _ _ h)
theorem agL_lt (sd tr : Nat) (ln : List Nat) : ∀ (n q : Nat) (t : Tb), TbG q t → n + t.cs.length = 4 * q → q ≤ 4 → ∀ y ∈ agL sd tr ln n t, y < 52
  | 0, _, _, _, _, _, y, hy => by cases hy
  | n + 1, q, t, hg, hm, hq, y, hy => by
    have hlg := agC_legal (sd := sd) (tr := tr) hg hm hq ln
    obtain ⟨q', hg', hq', hm'⟩ := hg.put tr hlg hm
    rcases List.mem_cons.1 (show y ∈ agC sd tr ln n t :: agL sd tr ln n (t.put tr (agC sd tr ln n t)).1 from hy) with rfl | h
    · exact (mem_cards.1 (cards_pk hg.ok.pk hlg)).1
    · exact agL_lt sd tr ln n q' _ hg' hm' (by omega) y h
/-- between the rounds of a play: i cards are played -/
structure SF (sd tr b26 q0 : Nat) (ln : List Nat) (T0 : Tb) (i : Nat) (t : Tb) (q : Nat) (uv cv : Value) (l : List Nat) (w10 W : World) : Prop where
  row : Row W b26 27 (posA t.h tr t.ld uv)
  own : OwnU W w10.heap.size uv t.cs
  cards : OwnU W w10.heap.size cv l
  apt : Apt cv uv
  pos : PosT q t
  kq : (4 * q0 - i) + t.cs.length = 4 * q
  q4 : q ≤ 4
  len : l.length = i
  byl : ∀ r, ByL sd tr ln r t → ByL sd tr ln (l ++ r) T0
  c52 : ∀ y ∈ l, y < 52
  below : Below w10.heap.size w10 W
theorem SF.step {sd tr b26 q0 : Nat} {ln : List Nat} {T0 : Tb} {i : Nat} {t : Tb} {q : Nat} {uv cv : Value} {l : List Nat} {w10 W W' : World} (h : SF sd tr b26 q0 ln T0 i t q uv cv l w10 W) (hb : Below W.heap.size W W') : SF sd tr b26 q0 ln T0 i t q uv cv l w10 W' :=
  ⟨h.row.later hb, h.own.below hb, h.cards.below hb, h.apt, h.pos, h.kq, h.q4, h.len, h.byl, h.c52, h.below.trans (hb.mono h.below.size)⟩
def SfU (b26 : Nat) (PQ QA : Array Value) (us : List Value) (W : World) : Prop := match us with
  | [] => Row W b26 27 PQ
  | [_] => Row W b26 27 QA
  | _ => False
theorem SfU.same {b26 : Nat} {PQ QA : Array Value} {us : List Value} {W W' : World} (h : SfU b26 PQ QA us W) (e : ∀ A, Row W b26 27 A → Row W' b26 27 A) : SfU b26 PQ QA us W' := by
  match us, h with
  | [], h => exact e _ h
  | [_], h => exact e _ h
/-- a card is put behind the others, and the position stored -/
def SfS (w10 W0 : World) (b26 b33 : Nat) (PQ QA : Array Value) (uv2 cv : Value) (cs l : List Nat) (c : Nat) (vs us : List Value) (W : World) : Prop := Below w10.heap.size w10 W ∧ W0.heap.size ≤ W.heap.size ∧ Row W b33 27 QA ∧ OwnU W w10.heap.size uv2 cs ∧ SfU b26 PQ QA us W ∧ match vs with
  | [] => OwnU W w10.heap.size cv l ∧ Apt cv uv2
  | [s] => OwnU W w10.heap.size cv l ∧ Apt cv uv2 ∧ ∃ g, s = .slice (some ⟨g, 0, none⟩) 1 1 ∧ W0.heap.size ≤ g ∧ Row W g 5 #[.int .u8 (c : Int)]
  | [_, v] => OwnU W w10.heap.size v (l ++ [c]) ∧ Apt v uv2
  | [_, v, v'] => OwnU W w10.heap.size v (l ++ [c]) ∧ Apt v uv2 ∧ v' = v
  | _ => False
theorem SfS.new {w10 W0 : World} {b26 b33 : Nat} {PQ QA : Array Value} {uv2 cv : Value} {cs l : List Nat} {c : Nat} {us : List Value} {W : World} (h : SfS w10 W0 b26 b33 PQ QA uv2 cv cs l c [] us W) : SfS w10 W0 b26 b33 PQ QA uv2 cv cs l c [.slice (some ⟨W.heap.size, 0, none⟩) 1 1] us (W.alloc (.cells #[.int .u8 (c : Int)] 5)) := by
  obtain ⟨h1, h2, h3, h4, h5, h6, h7⟩ := h
  exact ⟨h1.alloc h1.size _, by rw [World.size_alloc]; omega, h3.alloc _, h4.alloc _, h5.same (fun A hr => hr.alloc _), h6.alloc _, h7, _, rfl, h2, Row.new W _ _⟩
theorem SfS.app {w10 W0 : World} {b26 b33 : Nat} {PQ QA : Array Value} {uv2 cv : Value} {cs l : List Nat} {c : Nat} {us : List Value} {s : Value} {W W' : World} {v' : Value} (h : SfS w10 W0 b26 b33 PQ QA uv2 cv cs l c [s] us W) (ho : OwnU W' w10.heap.size v' (l ++ [c])) (hg : W.grownBy W' cv.ownBlock) (hn : v'.ownBlock = cv.ownBlock ∨ v'.ownBlock = some W.heap.size) : SfS w10 W0 b26 b33 PQ QA uv2 cv cs l c [s, v'] us W' := by
  obtain ⟨h1, h2, h3, h4, h5, h6, h7, -⟩ := h
  have hb := grown_below h6 hg h1.size
  have hrow : ∀ b A, Row W b 27 A → Row W' b 27 A := fun b A hr => by
    obtain ⟨-, -, -, -, k⟩ := hg
    exact hr.same (k b hr.lt (own_apart h6 hr (by decide)))
  exact ⟨h1.trans hb, Nat.le_trans h2 hb.size, hrow _ _ h3, Owns.kept h4 hg h7.row, h5.same (hrow b26), ho, h7.app h4 hn⟩
theorem SfS.store {w10 W0 : World} {b26 b33 : Nat} {PQ QA : Array Value} {uv2 cv : Value} {cs l : List Nat} {c : Nat} {vs : List Value} {W : World} (h : SfS w10 W0 b26 b33 PQ QA uv2 cv cs l c vs [] W) (hlt : b26 < W0.heap.size) (hne : b33 ≠ b26) (hlo : w10.heap.size ≤ b26) (x : Value) : SfS w10 W0 b26 b33 PQ QA uv2 cv cs l c vs [x] (W.setRow b26 QA) := by
  obtain ⟨h1, h2, h3, h4, h5, h6⟩ := h
  have hr : Row W b26 27 PQ := h5
  have ho : ∀ {base : Nat} {v : Value} {m : List Nat}, OwnU W base v m → OwnU (W.setRow b26 QA) base v m := fun hv => Owns.kept hv (grownBy_rowY W b26 QA) (.inl (own_apart hv hr (by decide)))
  refine ⟨below_setRow h1 hlo _, by rw [size_setRow]; exact h2, h3.same (setRow_other _ _ _ _ hne), ho h4, setRow_heap _ _ _ _ _ _ hr, ?_⟩
  match vs, h6 with
  | [], ⟨h6, h7⟩ => exact ⟨ho h6, h7⟩
  | [_], ⟨h6, h7, g, e, hg, k⟩ => exact ⟨ho h6, h7, g, e, hg, k.same (setRow_other _ _ _ _ (by omega))⟩
  | [_, _], ⟨h6, h7⟩ => exact ⟨ho h6, h7⟩
  | [_, _, _], ⟨h6, h7, e⟩ => exact ⟨ho h6, h7, e⟩
theorem byt_row1 {W : World} {g c : Nat} (hr : Row W g 5 #[.int .u8 (c : Int)]) (hc : c < 256) : Byt W (some ⟨g, 0, none⟩) 1 [c] :=
  ⟨rfl, by simp, by intro i; rcases i with _ | _ <;> simp; exact hc, .inr ⟨g, 0, rfl, hr.lt, fun i hi => by
    obtain rfl : i = 0 := by simp at hi; exact hi
    exact hr.cell 0⟩⟩
set_option maxHeartbeats 4000000 in
set_option maxRecDepth 10000 in
theorem law_ClaimSafe (a : Option Addr) (len cap : Nat) (zs : List Nat) (n tr ld side : Nat) (a2 : Option Addr) (len2 cap2 : Nat) (zs2 : List Nat) (a3 : Option Addr) (len3 cap3 : Nat) (zs3 : List Nat) (w : World) (hz : Byt w a len zs) (hn : n < 256) (htr : tr < 256) (hld : ld < 256) (hsi : side < 256) (hz2 : Byt w a2 len2 zs2) (hz3 : Byt w a3 len3 zs3) (hT : Tab w) :
    Calls Tryd.prog 4 #[.slice a len cap, .int .u8 (n : Int), .int .u8 (tr : Int), .int .u8 (ld : Int), .int .u8 (side : Int), .slice a2 len2 cap2, .slice a3 len3 cap3] w fun e w' => e = .returned (.bool true) ∧ Below w.heap.size w w' := by
  have HZ3 := Lib.hid hz3
  clear hz3
  have HT := Lib.hid hT
  have HZ2 := Lib.hid hz2
  have HDE := Lib.hid (dm_Dealt a len cap zs n tr ld 3 hn htr hld (by decide) w hz)
  have hq4 : n % (3 + 1) ≤ 4 := by omega
  have hq3 : n % (3 + 1) ≤ 3 := by omega
  have ht5 : tr % 5 < 5 := by omega
  have hl4 : ld % 4 < 4 := by omega
  have hs2 : side % 2 < 2 := by omega
  obtain ⟨q, hq⟩ : ∃ q, n % (3 + 1) = q := ⟨_, rfl⟩
  obtain ⟨t5, htt⟩ : ∃ q, tr % 5 = q := ⟨_, rfl⟩
  obtain ⟨l4, hll⟩ : ∃ q, ld % 4 = q := ⟨_, rfl⟩
  obtain ⟨sd, hsd⟩ : ∃ q, side % 2 = q := ⟨_, rfl⟩
  rw [hq, htt, hll] at HDE
  rw [hq] at hq4 hq3
  rw [htt] at ht5
  rw [hll] at hl4
  rw [hsd] at hs2
  have hnq : (n : Int) % 4 = (q : Int) := by omega
  have hnt : (n : Int).tmod 4 = (q : Int) := by rw [Int.tmod_eq_emod_of_nonneg (by omega)]; omega
  have hs1 : (side : Int) % 2 = (sd : Int) := by omega
  have hst : (side : Int).tmod 2 = (sd : Int) := by rw [Int.tmod_eq_emod_of_nonneg (by omega)]; omega
  have hsw : IntKind.u8.wrap (sd : Int) = (sd : Int) := by rw [IntKind.wrap_u8]; omega
  simp only [show ((3 : Nat) : Int) = 3 from rfl] at HDE
  clear hq htt hll hz hT hsd hz2
  have HNQ := Lib.hid (And.intro hnq hnt)
  clear hnq hnt
  go_enter Tryd.func4, Tryd.ntmps4
  go_upto_region 1 with fail
  go_wp2_with fail
  refine HDE.out.mono ?_
  rintro e w1 ⟨h, hD, rfl, hb1⟩
  obtain ⟨hrt, hRP⟩ := dealt_all hD hq4 ht5 hl4
  have HPZ : Hid ((posA h t5 l4 (.slice none 0 0)).size = 7 ∧ (posA h t5 l4 (.slice none 0 0)).all (·.oneCell') = true) := Lib.hid ⟨rfl, by simp [posA, Value.oneCell']⟩
  have HPO := Lib.hid (hD.pos (q := q) (by omega) (ld := l4) (by omega))
  have HMU := Lib.hid (fun W (hT : Tab W) => cl_Must_ok h t5 l4 [] none 0 sd hD.w64 (by omega) (by omega) hs2 W (ch_nil W) hT q (hD.turn l4) hq4 hrt)
  have HBE := Lib.hid (fun W (hT : Tab W) => cl_Best_ok h t5 l4 [] none 0 sd hD.w64 (by omega) (by omega) hs2 W (ch_nil W) hT q (hD.turn l4) hq4 hrt)
  have HSU := Lib.hid (fun W (hT : Tab W) la lcap (hl : Byt W la (lnd zs2).length (lnd zs2)) hln => cl_Sure_ok h t5 l4 [] none 0 sd 0 (lnd zs2) la lcap hD.w64 (by omega) (by omega) hs2 W (ch_nil W) hl hln hT q (hD.turn l4) hq4 hrt (lnd_claim zs2 hs2 (by omega) (by omega)) (lnd_ok zs2).2.2)
  have HAG := Lib.hid (fun W (hT : Tab W) la lcap (hl : Byt W la (lnd zs2).length (lnd zs2)) hln => cl_Against_ok h t5 l4 [] none 0 sd 0 (lnd zs2) la lcap hD.w64 (by omega) (by omega) hs2 W (ch_nil W) hl hln hT q (hD.turn l4) hq4 hrt (lnd_claim zs2 hs2 (by omega) (by omega)) (lnd_ok zs2).2.2)
  have HTRK := Lib.hid (fun (play : List Nat) (hpl : Plays t5 play ⟨h, l4, []⟩) (hlen : play.length + ([] : List Nat).length = 4 * q) W av lv cv (hz : Byt W av lv play) => law16_tricks h t5 l4 [] none 0 sd q av lv cv play W HPO.out (by omega) hs2 hq4 (ch_nil W) hz hpl hlen)
  have hvS : mn sd t5 false (lnd zs2) (4 * q - ([] : List Nat).length) ⟨h, l4, []⟩ ≤ bestV sd t5 q (4 * q - ([] : List Nat).length) ⟨h, l4, []⟩ := by
    have h1 := mn_le_vS (sd := sd) (tr := t5) (line := lnd zs2) (4 * q - ([] : List Nat).length) ⟨h, l4, []⟩ hRP.ok.pk
    unfold bestV
    rcases (show sd = 0 ∨ sd = 1 by omega) with rfl | rfl
    · rw [if_neg (by decide), ← vS_zero t5 _ _ hRP.ok.pk]; exact h1
    · rw [if_pos rfl, ← vS_one t5 _ q _ hRP.ok hRP.evn (by simp)]; exact h1
  have hAL := agL_ok (sd := sd) (tr := t5) (lnd zs2) (4 * q - ([] : List Nat).length) q ⟨h, l4, []⟩ HPO.out.tg (by simp) hq4
  have hA52 := agL_lt sd t5 (lnd zs2) (4 * q - ([] : List Nat).length) q ⟨h, l4, []⟩ HPO.out.tg (by simp) hq4
  have hALn := agL_len sd t5 (lnd zs2) (4 * q - ([] : List Nat).length) ⟨h, l4, []⟩
  have HBYL := Lib.hid (fun (l : List Nat) (hl : l.length = 4 * q) (hb : ByL sd t5 (lnd zs2) l ⟨h, l4, []⟩) => byL_le (lnd zs2) (4 * q - ([] : List Nat).length) q ⟨h, l4, []⟩ l HPO.out.tg (by simp) (by simpa using hl) hb)
  obtain ⟨x, hx⟩ : ∃ r, mn sd t5 true [] (4 * q - ([] : List Nat).length) ⟨h, l4, []⟩ = r := ⟨_, rfl⟩
  obtain ⟨y, hy⟩ : ∃ r, mn sd t5 false (lnd zs2) (4 * q - ([] : List Nat).length) ⟨h, l4, []⟩ = r := ⟨_, rfl⟩
  obtain ⟨z, hzb⟩ : ∃ r, bestV sd t5 q (4 * q - ([] : List Nat).length) ⟨h, l4, []⟩ = r := ⟨_, rfl⟩
  obtain ⟨L, hL⟩ : ∃ r, agL sd t5 (lnd zs2) (4 * q - ([] : List Nat).length) ⟨h, l4, []⟩ = r := ⟨_, rfl⟩
  have HXY : Hid (x ≤ y ∧ y ≤ z) := Lib.hid ⟨by rw [← hx, ← hy]; exact mn_free_le _ _ hRP.ok.pk, by rw [← hy, ← hzb]; exact hvS⟩
  rw [hx] at HMU
  simp only [hy] at HSU
  rw [hzb] at HBE
  simp only [hL] at HAG
  rw [hL, hy] at hAL
  rw [hL] at hA52 hALn
  simp only [hy] at HBYL
  have HL4 : Hid (L.length + ([] : List Nat).length = 4 * q ∧ (∀ y ∈ L, y < 52)) := Lib.hid ⟨by rw [hALn]; simp, hA52⟩
  have HTA := Lib.hid (HTRK.out L hAL.1 HL4.out.1)
  rw [hAL.2] at HTA
  obtain ⟨PA, hPA⟩ : ∃ A, posA h t5 l4 (.slice none 0 0) = A := ⟨_, rfl⟩
  have hPA' : posA h t5 l4 (.slice none ([] : List Nat).length 0) = PA := hPA
  have HPA := Lib.hid hPA
  rw [hPA] at HPZ ⊢
  simp only [hPA'] at HSU HMU HBE HAG HTRK HTA
  clear hPA' hD hrt hRP hvS hAL hA52 hALn hx hy hzb hL
  have HN := Lib.hid (Row.new w1 27 zeroP)
  have ha := below_setRow ((Below.refl w1.heap.size w1).alloc (Nat.le_refl _) (.cells zeroP 27)) (Nat.le_refl _) PA
  have HR := Lib.hid (show Row ((w1.alloc (.cells zeroP 27)).setRow w1.heap.size PA) w1.heap.size 27 PA from setRow_heap _ _ _ _ _ _ HN.out)
  have HB := Lib.hid (hb1.trans (ha.mono hb1.size))
  clear hb1 ha hPA
  go_upto_region 2 with (refine wpList_store_row rfl 27 (.tmp 15) (.tmp 42) rfl w1.heap.size PA rfl rfl 27 _ HN.out (by rw [HPZ.out.1]; exact size_pos) (by rw [HPZ.out.1]; rfl) HPZ.out.2 ?_)
  generalize (w1.alloc (.cells zeroP 27)).setRow w1.heap.size PA = w2 at *
  obtain ⟨bp, hbp⟩ : ∃ b, w1.heap.size = b := ⟨_, rfl⟩
  rw [hbp] at HR ⊢
  clear hbp HN
  go_wp2_with fail
  refine (law16_lined a2 len2 cap2 zs2 w2 (HZ2.out.below (Nat.le_refl _) HB.out)).mono ?_
  rintro e w3 ⟨v, rfl, hown, hb3⟩
  obtain ⟨la, lcap, rfl, hlB, hlN⟩ := LnM.lnd hown
  have HLO := Lib.hid (lnd_ok zs2)
  have HLC := Lib.hid (fun (q : Nat) => lnd_claim zs2 hs2 (tk := 0) (q := q) (by omega) (by omega))
  obtain ⟨ln, hln⟩ : ∃ l, lnd zs2 = l := ⟨_, rfl⟩
  rw [hln] at HSU HAG HBYL hlB HLO HLC ⊢
  obtain ⟨nl, hnl⟩ : ∃ z, ln.length = z := ⟨_, rfl⟩
  have HNL := Lib.hid hnl
  rw [hnl] at hlB HSU HAG ⊢
  obtain ⟨CA, hCA⟩ : ∃ A, cmA sd 0 (.slice la nl lcap) = A := ⟨_, rfl⟩
  have HCA := Lib.hid hCA
  have HCZ : Hid (CA.size = 3) := Lib.hid (by rw [← hCA]; rfl)
  have HC0 : Hid (CA[0]? = some (.int .u8 (sd : Int))) := Lib.hid (by rw [← hCA]; rfl)
  have HC4 := Lib.hid (Row.new w3 44 CA)
  have ha := (Below.refl w3.heap.size w3).alloc (Nat.le_refl _) (.cells CA 44)
  have hbb := hb3.trans (ha.mono hb3.size)
  have HR4 := Lib.hid (HR.out.later hbb)
  have HB4 := Lib.hid (HB.out.trans (hbb.mono HB.out.size))
  have HY4 := Lib.hid (hlB.below (Nat.le_refl _) ha)
  have HT4 := Lib.hid (HT.out.below HT.out.pos HB4.out)
  have HSU := Lib.hid (fun W hT hl hlb => HSU.out W hT la lcap hl hlb)
  have HAG := Lib.hid (fun W hT hl hlb => HAG.out W hT la lcap hl hlb)
  rw [hCA] at HSU HAG
  have HLB : Hid (∀ W, Below w3.heap.size w3 W → ∀ b off, la = some ⟨b, off, none⟩ → b < W.heap.size) := Lib.hid fun W hb b off e => Nat.lt_of_lt_of_le (hlN b off e) hb.size
  have HA4 := Lib.hid ha
  clear hbb hb3 hown hlB hlN ha HR HB hln hnl HZ2
  go_upto_region 3 with fail
  show Code.wp _ _ _ _ (w3.alloc (.cells (cmA sd 0 (.slice la nl lcap)) 44))
  rw [hCA]
  clear hCA
  generalize w3.alloc (.cells CA 44) = w4 at *
  obtain ⟨bc, hbc⟩ : ∃ b, w3.heap.size = b := ⟨_, rfl⟩
  rw [hbc] at HC4 ⊢
  clear hbc
  go_wp2_with (first
    | refine wpList_load_row rfl 27 (.tmp 15) rfl bp rfl 27 PA (0, 0) _ HR4.out Tryd.underlying27 rfl (by rw [HPZ.out.1]; exact size_pos) ?_
    | refine wpList_load_row rfl 44 (.tmp 16) rfl bc rfl 44 CA (0, 0) _ HC4.out Tryd.underlying44 rfl (by rw [HCZ.out]; exact size_cm) ?_)
  refine (HSU.out _ HT4.out HY4.out (HLB.out _ HA4.out)).mono ?_
  rintro e w5 ⟨rfl, hb⟩
  have HR5 := Lib.hid (HR4.out.later hb)
  have HC5 := Lib.hid (HC4.out.later hb)
  have HY5 := Lib.hid (HY4.out.below (Nat.le_refl _) hb)
  have HB5 := Lib.hid (HB4.out.trans (hb.mono HB4.out.size))
  have HA5 := Lib.hid (HA4.out.trans (hb.mono HA4.out.size))
  have HT5 := Lib.hid (HT4.out.below HT4.out.pos hb)
  clear hb HR4 HC4 HY4 HB4 HA4 HT4
  have c0 : w5.cell? ⟨bc, 0, none⟩ = some (.int .u8 (sd : Int)) := (HC5.out.cell 0).trans HC0.out
  go_wp2_with (first
    | refine wpList_load_row rfl 27 (.tmp 15) rfl bp rfl 27 PA (0, 0) _ HR5.out Tryd.underlying27 rfl (by rw [HPZ.out.1]; exact size_pos) ?_
    | refine wpList_load_row rfl 44 (.tmp 16) rfl bc rfl 44 CA (0, 0) _ HC5.out Tryd.underlying44 rfl (by rw [HCZ.out]; exact size_cm) ?_)
  refine (HMU.out _ HT5.out).mono ?_
  rintro e w6 ⟨rfl, hb⟩
  have HR6 := Lib.hid (HR5.out.later hb)
  have HC6 := Lib.hid (HC5.out.later hb)
  have HY6 := Lib.hid (HY5.out.below (Nat.le_refl _) hb)
  have HB6 := Lib.hid (HB5.out.trans (hb.mono HB5.out.size))
  have HA6 := Lib.hid (HA5.out.trans (hb.mono HA5.out.size))
  have HT6 := Lib.hid (HT5.out.below HT5.out.pos hb)
  clear hb HR5 HC5 HY5 HB5 HA5 HT5 c0
  have c0 : w6.cell? ⟨bc, 0, none⟩ = some (.int .u8 (sd : Int)) := (HC6.out.cell 0).trans HC0.out
  go_wp2_with (first
    | refine wpList_load_row rfl 27 (.tmp 15) rfl bp rfl 27 PA (0, 0) _ HR6.out Tryd.underlying27 rfl (by rw [HPZ.out.1]; exact size_pos) ?_
    | refine wpList_load_row rfl 44 (.tmp 16) rfl bc rfl 44 CA (0, 0) _ HC6.out Tryd.underlying44 rfl (by rw [HCZ.out]; exact size_cm) ?_)
  refine (HBE.out _ HT6.out).mono ?_
  rintro e w7 ⟨rfl, hb⟩
  have HR7 := Lib.hid (HR6.out.later hb)
  have HC7 := Lib.hid (HC6.out.later hb)
  have HY7 := Lib.hid (HY6.out.below (Nat.le_refl _) hb)
  have HB7 := Lib.hid (HB6.out.trans (hb.mono HB6.out.size))
  have HA7 := Lib.hid (HA6.out.trans (hb.mono HA6.out.size))
  have HT7 := Lib.hid (HT6.out.below HT6.out.pos hb)
  clear hb HR6 HC6 HY6 HB6 HA6 HT6 c0
  go_wp2_with (first
    | refine wpList_load_row rfl 27 (.tmp 15) rfl bp rfl 27 PA (0, 0) _ HR7.out Tryd.underlying27 rfl (by rw [HPZ.out.1]; exact size_pos) ?_
    | refine wpList_load_row rfl 44 (.tmp 16) rfl bc rfl 44 CA (0, 0) _ HC7.out Tryd.underlying44 rfl (by rw [HCZ.out]; exact size_cm) ?_)
  refine (HAG.out _ HT7.out HY7.out (HLB.out _ HA7.out)).mono ?_
  rintro e w8 ⟨v, rfl, hown, hb⟩
  obtain ⟨va, vc, rfl, hxb, -⟩ := LnM.of_own hown (by have := HL4.out.1; simp at this; omega) HL4.out.2
  have HR8 := Lib.hid (HR7.out.later hb)
  have HC8 := Lib.hid (HC7.out.later hb)
  have HY8 := Lib.hid (HY7.out.below (Nat.le_refl _) hb)
  have HB8 := Lib.hid (HB7.out.trans (hb.mono HB7.out.size))
  have HA8 := Lib.hid (HA7.out.trans (hb.mono HA7.out.size))
  have HT8 := Lib.hid (HT7.out.below HT7.out.pos hb)
  clear hb HR7 HC7 HY7 HB7 HA7 HT7
  have HAB : Hid (Byt w8 va L.length L) := Lib.hid hxb
  clear hxb hown
  obtain ⟨Ll, hLl⟩ : ∃ z, L.length = z := ⟨_, rfl⟩
  rw [hLl] at HAB
  have hxy := HXY.out
  have d1 : decide (y < x) = false := by simp; omega
  have d2 : decide (z < y) = false := by simp; omega
  have d3 : decide ((x : Int) < 0) = false := by simp
  have c0 : w8.cell? ⟨bc, 0, none⟩ = some (.int .u8 (sd : Int)) := (HC8.out.cell 0).trans HC0.out
  rw [hLl]
  clear hLl
  go_wp2_with (refine wpList_load_row_gX rfl 27 (.tmp 15) rfl bp rfl 27 PA (0, 0) _ HR8.out Tryd.underlying27 rfl (by rw [HPZ.out.1]; exact size_pos) ?_)
  refine (HTA.out w8 _ _ _ HAB.out).mono ?_
  rintro e w9 ⟨rfl, hb⟩
  have HR9 := Lib.hid (HR8.out.later hb)
  have HC9 := Lib.hid (HC8.out.later hb)
  have HY9 := Lib.hid (HY8.out.below (Nat.le_refl _) hb)
  have HB9 := Lib.hid (HB8.out.trans (hb.mono HB8.out.size))
  have HA9 := Lib.hid (HA8.out.trans (hb.mono HA8.out.size))
  have HT9 := Lib.hid (HT8.out.below HT8.out.pos hb)
  clear hb HR8 HC8 HY8 HB8 HA8 HT8 c0 HAB d1 d2 d3 hxy HTA HSU HAG HMU HBE
  go_upto_region 10 with fail
  have HW9 := Lib.hid HB9.out.size
  have HN := Lib.hid (Row.new w9 27 zeroP)
  have ha := below_setRow ((Below.refl w9.heap.size w9).alloc (Nat.le_refl _) (.cells zeroP 27)) (Nat.le_refl _) PA
  have H26 := Lib.hid (show Row ((w9.alloc (.cells zeroP 27)).setRow w9.heap.size PA) w9.heap.size 27 PA from setRow_heap _ _ _ _ _ _ HN.out)
  have HA10 := Lib.hid ha
  clear ha
  go_upto_region 11 with (first
    | refine wpList_load_row rfl 27 (.tmp 15) rfl bp rfl 27 PA (0, 0) _ HR9.out Tryd.underlying27 rfl (by rw [HPZ.out.1]; exact size_pos) ?_
    | refine wpList_store_row rfl 27 (.tmp 26) (.tmp 105) rfl w9.heap.size PA rfl rfl 27 _ HN.out (by rw [HPZ.out.1]; exact size_pos) (by rw [HPZ.out.1]; rfl) HPZ.out.2 ?_)
  generalize (w9.alloc (.cells zeroP 27)).setRow w9.heap.size PA = w11 at *
  obtain ⟨b26, hb26⟩ : ∃ b, w9.heap.size = b := ⟨_, rfl⟩
  have HB26 := Lib.hid hb26
  rw [hb26] at H26 ⊢
  clear hb26 HN
  obtain ⟨M, hM⟩ : ∃ M, 4 * q = M := ⟨_, rfl⟩
  have HM := Lib.hid hM
  have hM16 : M ≤ 12 := by omega
  have hMI : 4 * (q : Int) = (M : Int) := by omega
  have hnq := HNQ.out.1
  have hnt := HNQ.out.2
  clear hM
  go_upto_region 12 with fail
  clear hMI hnq hnt
  try dsimp only [Act.put]
  go_loopg [25, 110] M (fun g cv iv wr => ∃ (i : Nat) (t : Tb) (q1 : Nat) (ua : Option Addr) (uc : Nat) (cv' : Value) (l : List Nat), g = M - i ∧ i ≤ M ∧ iv = .int .i64 (i : Int) ∧ cv = cv' ∧ SF sd t5 b26 q ln ⟨h, l4, []⟩ i t q1 (.slice ua t.cs.length uc) cv' l w9 wr)
  case atStart =>
    exact ⟨0, ⟨h, l4, []⟩, q, none, 0, _, [], rfl, by omega, rfl, rfl, ⟨by rw [show posA h t5 l4 (.slice none ([] : List Nat).length 0) = PA from HPA.out]; exact H26.out, Owns.nil encU_len _ _, Owns.nil encU_len _ _, (fun g h => by cases h), HPO.out, by simp, hq4, rfl, fun r hr => hr, fun y hy => (by cases hy), HA10.out⟩⟩
  case round =>
    obtain ⟨i, t, q1, ua, uc, cv, l, rfl, hi, rfl, rfl, hS⟩ := hrel
    have HSK := Lib.hid hS
    clear hS
    have HBK := Lib.hid (HB9.out.trans (HSK.out.below.mono HW9.out))
    have HTK := Lib.hid (HT.out.below HT.out.pos HBK.out)
    have HCK := Lib.hid (HC9.out.later HSK.out.below)
    have HYK := Lib.hid (HY9.out.below (Nat.le_refl _) HSK.out.below)
    have HRW := Lib.hid HSK.out.row
    obtain ⟨ua', uc', hue, hyt⟩ := OwnU.playedX HSK.out.own HSK.out.pos.ok
    have hyt2 : Byt wr ua t.cs.length t.cs := by
      injection hue with e1 e2 e3
      rw [e1]; exact hyt
    have HYT := Lib.hid hyt2
    have HTN : Hid (pop (t.h ((t.ld + t.cs.length) % 4)) = q1) := Lib.hid (HSK.out.pos.evn.turn HSK.out.pos.ok.pk.2)
    have HRT := Lib.hid (HSK.out.pos.right (tr := t5) (by omega))
    have HLD : Hid (t.ld < 256) := Lib.hid (by have := HSK.out.pos.ok.ld; omega)
    have hte : Tb.mk t.h t.ld t.cs = t := rfl
    have HPQ0 : Hid ((posA t.h t5 t.ld (.slice ua t.cs.length uc)).size = 7) := Lib.hid rfl
    clear hue hyt hyt2
    have hnl := HNL.out
    have hcm : cmA sd 0 (.slice la nl lcap) = CA := HCA.out
    by_cases hlt : i < M
    · have hdk : decide (i < M) = true := by simp; omega
      have HQ1 : Hid (0 < q1) := Lib.hid (by have := HSK.out.kq; have := HSK.out.pos.ok.pk.2; have := HM.out; omega)
      have HCN : Hid (canM t ≠ 0) := Lib.hid (HSK.out.pos.tg.can HQ1.out)
      by_cases hs : t.turn % 2 = sd
      · have HNX := Lib.hid (cl_Next_ok t.h t5 t.ld t.cs ua uc sd 0 ln la lcap HSK.out.pos.ok.w64 (by omega) HLD.out hs2 wr HYT.out (by rw [hnl]; exact HYK.out) HTK.out q1 HTN.out HRT.out (HLC.out q1) HLO.out.2.2 (by rw [hte]; exact HCN.out) (by rw [hte]; exact hs))
        rw [hnl, hcm, hte] at HNX
        have HLG : Hid (t.legal (lineC ln t) = true) := Lib.hid (lineC_mem HSK.out.pos.ok HCN.out ln)
        obtain ⟨c, hc⟩ : ∃ c, lineC ln t = c := ⟨_, rfl⟩
        have HTC : Hid (t.turn % 2 = sd → c = lineC ln t) := Lib.hid (fun _ => hc.symm)
        rw [hc] at HNX HLG
        obtain ⟨PQ0, hPQ0⟩ : ∃ A, posA t.h t5 t.ld (.slice ua t.cs.length uc) = A := ⟨_, rfl⟩
        have HPQE := Lib.hid hPQ0
        rw [hPQ0] at HNX HRW HPQ0
        clear hc hs hte hnl hcm hPQ0
        go_upto_region 14 with fail
        go_wp2_with (first
          | refine wpList_load_row rfl 27 (.tmp 26) rfl b26 rfl 27 PQ0 (0, 0) _ HRW.out Tryd.underlying27 rfl (by rw [HPQ0.out]; exact size_pos) ?_
          | refine wpList_load_row rfl 44 (.tmp 16) rfl bc rfl 44 CA (0, 0) _ HCK.out Tryd.underlying44 rfl (by rw [HCZ.out]; exact size_cm) ?_)
        refine HNX.out.mono ?_
        rintro e wK ⟨rfl, hb⟩
        have HSK := Lib.hid (HSK.out.step hb)
        clear hb HTK HCK HYK HRW HYT HNX HPQ0 HBK
        go_upto_region 23 with fail
        have HPL := Lib.hid (fun W hz => dm_Play_ok t.h t5 t.ld t.cs ua uc c HSK.out.pos.ok.w64 (by omega) (by have := HSK.out.pos.ok.ld; omega) W hz (HSK.out.pos.right (by omega)) HLG.out)
        have hte : Tb.mk t.h t.ld t.cs = t := rfl
        rw [hte] at HPL
        obtain ⟨q2, hp2, hq2, hw2, hk2⟩ := HSK.out.pos.put t5 (cards_pk HSK.out.pos.ok.pk HLG.out)
        have HNX := Lib.hid (And.intro hp2 (And.intro (Nat.le_trans hq2 HSK.out.q4) (hk2 (4 * q - (i + 1)) (by have := HSK.out.kq; have := HM.out; omega))))
        have HBN : Hid (∀ r, ByL sd t5 ln r (t.put t5 c).1 → ByL sd t5 ln (l ++ [c] ++ r) ⟨h, l4, []⟩) := Lib.hid fun r hr => by
          rw [List.append_assoc]
          exact HSK.out.byl (c :: r) ⟨HLG.out, HTC.out, hr⟩
        have HC52 : Hid (c < 52) := Lib.hid (mem_cards.1 (cards_pk HSK.out.pos.ok.pk HLG.out)).1
        have HLL : Hid (l.length < 16) := Lib.hid (by rw [HSK.out.len]; omega)
        obtain ⟨u, hu⟩ : ∃ u, (t.put t5 c).1 = u := ⟨_, rfl⟩
        obtain ⟨wk, hwk⟩ : ∃ x, (t.put t5 c).2 = x := ⟨_, rfl⟩
        rw [hu, hwk] at HPL
        rw [hu] at HNX HBN
        obtain ⟨ua', uc', hue, hyt⟩ := OwnU.playedX HSK.out.own HSK.out.pos.ok
        have hyt2 : Byt wK ua t.cs.length t.cs := by
          injection hue with e1 e2 e3
          rw [e1]; exact hyt
        have HYT := Lib.hid hyt2
        have HROW := Lib.hid HSK.out.row
        have HPQ : Hid ((posA t.h t5 t.ld (.slice ua t.cs.length uc)).size = 7) := Lib.hid rfl
        obtain ⟨PQ, hPQ⟩ : ∃ A, posA t.h t5 t.ld (.slice ua t.cs.length uc) = A := ⟨_, rfl⟩
        rw [hPQ] at HROW HPQ HPL
        clear hp2 hq2 hw2 hk2 hu hwk hue hyt hyt2 hte hPQ
        go_wp2_with (refine wpList_load_row rfl 27 (.tmp 26) rfl b26 rfl 27 PQ (0, 0) _ HROW.out Tryd.underlying27 rfl (by rw [HPQ.out]; exact size_pos) ?_)
        refine (HPL.out _ HYT.out).mono ?_
        rintro e w20 ⟨v5, rfl, hov, hb20⟩
        obtain ⟨xa, xc, rfl, -⟩ := hov.playedX HNX.out.1.ok
        have HQZ := Lib.hid (posA_one u.h t5 u.ld xa u.cs.length xc)
        have HAPX : Hid (Apt u25 (.slice xa u.cs.length xc)) := Lib.hid fun g hg hx => by
          have h1 := (HSK.out.cards.ltB g hg).2
          have h2 := (OwnU.ltB hov g hx).1
          omega
        obtain ⟨QA, hQA⟩ : ∃ A, posA u.h t5 u.ld (.slice xa u.cs.length xc) = A := ⟨_, rfl⟩
        have HQA := Lib.hid hQA
        rw [hQA] at HQZ ⊢
        have HN := Lib.hid (Row.new w20 27 zeroP)
        have ha := below_setRow ((Below.refl w20.heap.size w20).alloc (Nat.le_refl _) (.cells zeroP 27)) (Nat.le_refl _) QA
        have HQ6 := Lib.hid (show Row ((w20.alloc (.cells zeroP 27)).setRow w20.heap.size QA) w20.heap.size 27 QA from setRow_heap _ _ _ _ _ _ HN.out)
        have hbb := hb20.trans (ha.mono hb20.size)
        have HSL := Lib.hid (HSK.out.step hbb)
        have HRL := Lib.hid (HROW.out.later hbb)
        have HOV := Lib.hid (Owns.below (hov.mono (base' := w9.heap.size) HSK.out.below.size) ha)
        have HSZ : Hid (w20.heap.size < ((w20.alloc (.cells zeroP 27)).setRow w20.heap.size QA).heap.size) := Lib.hid HQ6.out.lt
        have HB20 : Hid (b26 < w20.heap.size) := Lib.hid (Nat.lt_of_lt_of_le HROW.out.lt hb20.size)
        clear hov hb20 ha hQA hbb HROW HYT HPL
        go_upto_region 24 with (refine wpList_store_row rfl 27 (.tmp 33) (.tmp 156) rfl w20.heap.size QA rfl rfl 27 _ HN.out (by rw [HQZ.out.1]; exact size_pos) (by rw [HQZ.out.1]; rfl) HQZ.out.2 ?_)
        generalize (w20.alloc (.cells zeroP 27)).setRow w20.heap.size QA = w21 at *
        obtain ⟨b33, hb33⟩ : ∃ b, w20.heap.size = b := ⟨_, rfl⟩
        rw [hb33] at HQ6 HSZ HB20 ⊢
        have HB33 : Hid (b26 < w21.heap.size ∧ b33 ≠ b26 ∧ w9.heap.size ≤ b26) := Lib.hid ⟨by have := HSZ.out; have := HB20.out; omega, by have := HB20.out; omega, Nat.le_of_eq HB26.out⟩
        clear hb33 HN
        go_upto_region 26 with fail
        refine wp_region_reliesT (ChF [u25, .int .u8 (c : Int), undef, undef, .agg QA, undef, undef] [2, 3, 5] [6] (SfS w9 w21 b26 b33 PQ QA (.slice xa u.cs.length xc) u25 u.cs l c)) (fun _ => true) (by kernel_rfl) (by kernel_rfl) (by kernel_rfl) (by kernel_rfl) (ChF.start ⟨HSL.out.below.drew, Nat.le_refl _, HQ6.out, Owns.drew HOV.out, HRL.out, Owns.drew HSL.out.cards, HAPX.out⟩) ?obls ?fini
        case obls =>
          refine ⟨⟨?_, ?_⟩, ⟨?_, ?_⟩, ⟨?_, ?_⟩, ⟨?_, ?_⟩, ⟨?_, ?_⟩, ⟨?_, ?_⟩, ⟨?_, ?_⟩, trivial⟩
          · rfl
          · rintro ρ f W ⟨vs, us, hX⟩ hfi hw hcl hf
            have f25 : ρ (.tmp 25) = u25 := hf.1 25 (by simp [Op.operands])
            exact ok_value (v := u25) (w' := W) (by simp [execOp, f25]) (hX.pure 0 _ (by decide) (by decide) rfl hX.st)
          · rfl
          · rintro ρ f W ⟨vs, us, hX⟩ hfi hw hcl hf
            have f28 : ρ (.tmp 28) = .int .u8 (c : Int) := hf.1 28 (by simp [Op.operands])
            exact ok_value (v := .int .u8 (c : Int)) (w' := W) (by simp [execOp, f28]) (hX.pure 1 _ (by decide) (by decide) rfl hX.st)
          · rfl
          · rintro ρ f W ⟨vs, us, hX⟩ hfi hw hcl hf
            have f166 : ρ (.tmp 166) = .int .u8 (c : Int) := hX.val 1 _ _ (by decide) (by decide) (hf.1 166 (by simp [Op.operands])) rfl
            have hl := hX.le1 0 2 rfl hfi
            obtain rfl := list0 hl
            refine ok_value (v := .slice (some ⟨W.heap.size, 0, none⟩) 1 1) (w' := W.alloc (.cells #[.int .u8 (c : Int)] 5)) (by simp [execOp, f166, go_sem]) ?_
            exact hX.step1 2 _ rfl (by decide) (by decide) (SfS.new hX.st)
          · rfl
          · rintro ρ f W ⟨vs, us, hX⟩ hfi hw hcl hf
            have f165 : ρ (.tmp 165) = u25 := hX.val 0 _ _ (by decide) (by decide) (hf.1 165 (by simp [Op.operands, Call.operands])) rfl
            have g167 := hX.get1 0 2 rfl (hf.1 167 (by simp [Op.operands, Call.operands]))
            have hl := hX.le1 1 3 rfl hfi
            obtain ⟨p, rfl⟩ : ∃ p, vs = [p] := ⟨_, list1 hl g167⟩
            obtain ⟨h1, h2, h3, h4, h5, h6, h7, g, hpe, hg1, hg2⟩ := hX.st
            have f167 : ρ (.tmp 167) = .slice (some ⟨g, 0, none⟩) 1 1 := (Option.some.inj (show some p = some (ρ (.tmp 167)) from g167)).symm.trans hpe
            refine ok_appX (.tmp 165) (.tmp 167) rfl w9.heap.size u25 l [c] f165 h6 (some ⟨g, 0, none⟩) 1 1 f167 (byt_row1 hg2 (by have := HC52.out; omega)) (by have := HLL.out; omega) h1.size ?_
            intro v' w' k1 k2 k3
            exact hX.step1 3 _ rfl (by decide) (by decide) (SfS.app hX.st k1 k2 k3)
          · rfl
          · rintro ρ f W ⟨vs, us, hX⟩ hfi hw hcl hf
            have f33 : ρ (.tmp 33) = .pointer (some ⟨b33, 0, none⟩) := hf.1 33 (by simp [Op.operands])
            exact ok_value (exec_load_row 27 (.tmp 33) rfl b33 f33 hX.st.2.2.1 Tryd.underlying27 rfl (by rw [HQZ.out.1]; exact size_pos)) (hX.pure 4 _ (by decide) (by decide) rfl hX.st)
          · rfl
          · rintro ρ f W ⟨vs, us, hX⟩ hfi hw hcl hf
            have g168 := hX.get1 1 3 rfl (hf.1 168 (by simp [Op.operands]))
            have hl := hX.le1 2 5 rfl hfi
            obtain ⟨p0, rfl⟩ := list2 hl g168
            obtain ⟨h1, h2, h3, h4, h5, h6, h7⟩ := hX.st
            exact ok_value (v := ρ (.tmp 168)) (w' := W) (by simp [execOp, go_sem]) (hX.step1 5 _ rfl (by decide) (by decide) ⟨h1, h2, h3, h4, h5, h6, h7, rfl⟩)
          · rfl
          · rintro ρ f W ⟨vs, us, hX⟩ hfi hw hcl hf
            have f26 : ρ (.tmp 26) = .pointer (some ⟨b26, 0, none⟩) := hf.1 26 (by simp [Op.operands])
            have f169 : ρ (.tmp 169) = .agg QA := hX.val 4 _ _ (by decide) (by decide) (hf.1 169 (by simp [Op.operands])) rfl
            have hl := hX.le2 0 6 rfl hfi
            obtain rfl := list0 hl
            obtain ⟨h1, h2, h3, h4, h5, h6⟩ := hX.st
            have hr : Row W b26 27 PQ := h5
            exact ok_skip (exec_store_row 27 (.tmp 26) (.tmp 169) rfl b26 QA f26 f169 hr (by rw [HQZ.out.1]; exact size_pos) (by rw [HPQ.out, HQZ.out.1]) HQZ.out.2) (hX.step2 6 _ rfl (by decide) (by decide) (SfS.store hX.st HB33.out.1 HB33.out.2.1 HB33.out.2.2 _))
        case fini =>
          rintro us w22 hlen ⟨vs, us', hX⟩
          have hl0 : us.length = 7 := hlen
          match us, hl0 with
          | [y0, y1, y2, y3, y4, y5, y6], _ =>
            obtain ⟨p0, p1, rfl⟩ := list3 hX.l1 (hX.get1 2 5 rfl rfl)
            obtain ⟨z0, rfl⟩ : ∃ z, us' = [z] := ⟨_, list1 hX.l2 (hX.get2 0 6 rfl rfl)⟩
            have HST := Lib.hid hX.st
            clear hX hlen
            simp only [putAll, List.zip_cons_cons, List.zip_nil_right, List.foldl_cons, List.foldl_nil]
            simp only [Act.put, List.setIfInBounds_toArray, List.set_cons_succ, List.set_cons_zero]
            go_wp2_with fail
            go_roundg (M - (i + 1))
            case measure => omega
            case rel =>
              obtain ⟨h1, h2, h3, h4, h5, h6, h7, h8⟩ := HST.out
              subst h8
              exact ⟨i + 1, u, q2, xa, xc, _, l ++ [c], rfl, by omega, by go_num, rfl, ⟨by rw [HQA.out]; exact h5, h4, h6, h7, HNX.out.1, HNX.out.2.2, HNX.out.2.1, by rw [List.length_append, HSL.out.len]; rfl, HBN.out, fun y hy => by
                rcases List.mem_append.1 hy with h | h
                · exact HSL.out.c52 y h
                · rcases List.mem_singleton.1 h with rfl; exact HC52.out, h1⟩⟩
      · have HNX := Lib.hid (cl_Next_turn t.h t5 t.ld t.cs ua uc sd 0 ln la lcap HSK.out.pos.ok.w64 (by omega) HLD.out hs2 wr HYT.out (by rw [hnl]; exact HYK.out) HTK.out q1 HTN.out HRT.out (HLC.out q1) HLO.out.2.2 (by rw [hte]; exact HCN.out) (by rw [hte]; exact hs))
        have HCH := Lib.hid (fun W (hT : Tab W) hz => dm_Choices_ok t.h t5 t.ld t.cs ua uc HSK.out.pos.ok.w64 (by omega) HLD.out W hz hT q1 HTN.out HSK.out.q4 HRT.out)
        rw [hnl, hcm] at HNX
        rw [hte] at HCH
        have HNS := Lib.hid hs
        have hcne := cards_some HSK.out.pos.ok HSK.out.pos.evn HQ1.out
        have HN0 : Hid ((t.cards.map fun c => (c, worth t5 (4 * q1 - t.cs.length - 1) t c)).length ≠ 0) := Lib.hid (by rw [List.length_map]; exact fun e => hcne (List.length_eq_zero_iff.1 e))
        have HN52 : Hid ((t.cards.map fun c => (c, worth t5 (4 * q1 - t.cs.length - 1) t c)).length ≤ 52) := Lib.hid (by rw [List.length_map]; unfold Tb.cards; exact Nat.le_trans (List.length_filter_le _ _) (by rw [List.length_range]; exact Nat.le_refl _))
        have HMEM : Hid (∀ x ∈ (t.cards.map fun c => (c, worth t5 (4 * q1 - t.cs.length - 1) t c)), t.legal x.1 = true) := Lib.hid fun x hx => by
          obtain ⟨c, hc, rfl⟩ := List.mem_map.1 hx
          exact (mem_cards.1 hc).2
        obtain ⟨CL, hCL⟩ : ∃ l, (t.cards.map fun c => (c, worth t5 (4 * q1 - t.cs.length - 1) t c)) = l := ⟨_, rfl⟩
        rw [hCL] at HCH HN0 HN52 HMEM
        obtain ⟨PQ0, hPQ0⟩ : ∃ A, posA t.h t5 t.ld (.slice ua t.cs.length uc) = A := ⟨_, rfl⟩
        have HPQE := Lib.hid hPQ0
        rw [hPQ0] at HNX HRW HPQ0 HCH
        clear hs hte hnl hcm hPQ0 hCL hcne
        go_upto_region 14 with fail
        go_wp2_with (first
          | refine wpList_load_row rfl 27 (.tmp 26) rfl b26 rfl 27 PQ0 (0, 0) _ HRW.out Tryd.underlying27 rfl (by rw [HPQ0.out]; exact size_pos) ?_
          | refine wpList_load_row rfl 44 (.tmp 16) rfl bc rfl 44 CA (0, 0) _ HCK.out Tryd.underlying44 rfl (by rw [HCZ.out]; exact size_cm) ?_)
        refine HNX.out.mono ?_
        rintro e wJ ⟨rfl, hb⟩
        have HSK := Lib.hid (HSK.out.step hb)
        have HRW := Lib.hid (HRW.out.later hb)
        have HYT := Lib.hid (HYT.out.below (Nat.le_refl _) hb)
        have HTJ := Lib.hid (HTK.out.below HTK.out.pos hb)
        clear hb HTK HCK HYK HNX HBK
        go_upto_region 16 with fail
        go_wp2_with (refine wpList_load_row rfl 27 (.tmp 26) rfl b26 rfl 27 PQ0 (0, 0) _ HRW.out Tryd.underlying27 rfl (by rw [HPQ0.out]; exact size_pos) ?_)
        refine (HCH.out _ HTJ.out HYT.out).mono ?_
        rintro e wK ⟨v6, rfl, hoc, hb⟩
        have HSK := Lib.hid (HSK.out.step hb)
        clear hb HRW HYT HCH HTJ HPQ0
        rcases hoc.form with ⟨-, h0⟩ | ⟨gc, cc, rfl, hg1, hg2, -⟩
        · exact absurd (by rw [h0]; rfl) HN0.out
        have HOC := Lib.hid hoc
        obtain ⟨N, hN⟩ : ∃ z, CL.length = z := ⟨_, rfl⟩
        have HNN := Lib.hid hN
        rw [hN] at HN0 HN52 HOC ⊢
        have hn0 := HN0.out
        have hn52 := HN52.out
        have hnb : ((N : Int) == 0) = false := by rw [beq_eq_false_iff_ne]; omega
        clear hoc hN hg1
        go_upto_region 20 with fail
        clear hnb
        have HAT : Hid (∀ k, k < N → ∃ c : Nat, wK.cell? ⟨gc, k * 2, none⟩ = some (.int .u8 (c : Int)) ∧ t.legal c = true) := Lib.hid fun k hk => by
          have hl : k < CL.length := by rw [HNN.out]; exact hk
          have h1 := HOC.out.cell k 0 (by decide) (List.getElem?_eq_getElem hl)
          exact ⟨CL[k].1, h1, HMEM.out _ (List.getElem_mem hl)⟩
        rcases Nat.eq_zero_or_pos len3 with h30 | h30
        · subst h30
          obtain ⟨c, hck, hcl⟩ := HAT.out 0 (by omega)
          rw [Nat.zero_mul] at hck
          have HLG := Lib.hid hcl
          have HTC : Hid (t.turn % 2 = sd → c = lineC ln t) := Lib.hid fun h => absurd h HNS.out
          have hN0 : 0 < N := by omega
          clear hcl HAT HOC
          go_upto_region 23 with fail
          clear hck
          have HPL := Lib.hid (fun W hz => dm_Play_ok t.h t5 t.ld t.cs ua uc c HSK.out.pos.ok.w64 (by omega) (by have := HSK.out.pos.ok.ld; omega) W hz (HSK.out.pos.right (by omega)) HLG.out)
          have hte : Tb.mk t.h t.ld t.cs = t := rfl
          rw [hte] at HPL
          obtain ⟨q2, hp2, hq2, hw2, hk2⟩ := HSK.out.pos.put t5 (cards_pk HSK.out.pos.ok.pk HLG.out)
          have HNX := Lib.hid (And.intro hp2 (And.intro (Nat.le_trans hq2 HSK.out.q4) (hk2 (4 * q - (i + 1)) (by have := HSK.out.kq; have := HM.out; omega))))
          have HBN : Hid (∀ r, ByL sd t5 ln r (t.put t5 c).1 → ByL sd t5 ln (l ++ [c] ++ r) ⟨h, l4, []⟩) := Lib.hid fun r hr => by
            rw [List.append_assoc]
            exact HSK.out.byl (c :: r) ⟨HLG.out, HTC.out, hr⟩
          have HC52 : Hid (c < 52) := Lib.hid (mem_cards.1 (cards_pk HSK.out.pos.ok.pk HLG.out)).1
          have HLL : Hid (l.length < 16) := Lib.hid (by rw [HSK.out.len]; omega)
          obtain ⟨u, hu⟩ : ∃ u, (t.put t5 c).1 = u := ⟨_, rfl⟩
          obtain ⟨wk, hwk⟩ : ∃ x, (t.put t5 c).2 = x := ⟨_, rfl⟩
          rw [hu, hwk] at HPL
          rw [hu] at HNX HBN
          obtain ⟨ua', uc', hue, hyt⟩ := OwnU.playedX HSK.out.own HSK.out.pos.ok
          have hyt2 : Byt wK ua t.cs.length t.cs := by
            injection hue with e1 e2 e3
            rw [e1]; exact hyt
          have HYT := Lib.hid hyt2
          have HROW := Lib.hid HSK.out.row
          have HPQ : Hid ((posA t.h t5 t.ld (.slice ua t.cs.length uc)).size = 7) := Lib.hid rfl
          obtain ⟨PQ, hPQ⟩ : ∃ A, posA t.h t5 t.ld (.slice ua t.cs.length uc) = A := ⟨_, rfl⟩
          rw [hPQ] at HROW HPQ HPL
          clear hp2 hq2 hw2 hk2 hu hwk hue hyt hyt2 hte hPQ
          go_wp2_with (refine wpList_load_row rfl 27 (.tmp 26) rfl b26 rfl 27 PQ (0, 0) _ HROW.out Tryd.underlying27 rfl (by rw [HPQ.out]; exact size_pos) ?_)
          refine (HPL.out _ HYT.out).mono ?_
          rintro e w20 ⟨v5, rfl, hov, hb20⟩
          obtain ⟨xa, xc, rfl, -⟩ := hov.playedX HNX.out.1.ok
          have HQZ := Lib.hid (posA_one u.h t5 u.ld xa u.cs.length xc)
          have HAPX : Hid (Apt u25 (.slice xa u.cs.length xc)) := Lib.hid fun g hg hx => by
            have h1 := (HSK.out.cards.ltB g hg).2
            have h2 := (OwnU.ltB hov g hx).1
            omega
          obtain ⟨QA, hQA⟩ : ∃ A, posA u.h t5 u.ld (.slice xa u.cs.length xc) = A := ⟨_, rfl⟩
          have HQA := Lib.hid hQA
          rw [hQA] at HQZ ⊢
          have HN := Lib.hid (Row.new w20 27 zeroP)
          have ha := below_setRow ((Below.refl w20.heap.size w20).alloc (Nat.le_refl _) (.cells zeroP 27)) (Nat.le_refl _) QA
          have HQ6 := Lib.hid (show Row ((w20.alloc (.cells zeroP 27)).setRow w20.heap.size QA) w20.heap.size 27 QA from setRow_heap _ _ _ _ _ _ HN.out)
          have hbb := hb20.trans (ha.mono hb20.size)
          have HSL := Lib.hid (HSK.out.step hbb)
          have HRL := Lib.hid (HROW.out.later hbb)
          have HOV := Lib.hid (Owns.below (hov.mono (base' := w9.heap.size) HSK.out.below.size) ha)
          have HSZ : Hid (w20.heap.size < ((w20.alloc (.cells zeroP 27)).setRow w20.heap.size QA).heap.size) := Lib.hid HQ6.out.lt
          have HB20 : Hid (b26 < w20.heap.size) := Lib.hid (Nat.lt_of_lt_of_le HROW.out.lt hb20.size)
          clear hov hb20 ha hQA hbb HROW HYT HPL
          go_upto_region 24 with (refine wpList_store_row rfl 27 (.tmp 33) (.tmp 156) rfl w20.heap.size QA rfl rfl 27 _ HN.out (by rw [HQZ.out.1]; exact size_pos) (by rw [HQZ.out.1]; rfl) HQZ.out.2 ?_)
          generalize (w20.alloc (.cells zeroP 27)).setRow w20.heap.size QA = w21 at *
          obtain ⟨b33, hb33⟩ : ∃ b, w20.heap.size = b := ⟨_, rfl⟩
          rw [hb33] at HQ6 HSZ HB20 ⊢
          have HB33 : Hid (b26 < w21.heap.size ∧ b33 ≠ b26 ∧ w9.heap.size ≤ b26) := Lib.hid ⟨by have := HSZ.out; have := HB20.out; omega, by have := HB20.out; omega, Nat.le_of_eq HB26.out⟩
          clear hb33 HN
          go_upto_region 26 with fail
          refine wp_region_reliesT (ChF [u25, .int .u8 (c : Int), undef, undef, .agg QA, undef, undef] [2, 3, 5] [6] (SfS w9 w21 b26 b33 PQ QA (.slice xa u.cs.length xc) u25 u.cs l c)) (fun _ => true) (by kernel_rfl) (by kernel_rfl) (by kernel_rfl) (by kernel_rfl) (ChF.start ⟨HSL.out.below.drew, Nat.le_refl _, HQ6.out, Owns.drew HOV.out, HRL.out, Owns.drew HSL.out.cards, HAPX.out⟩) ?obls ?fini
          case obls =>
            refine ⟨⟨?_, ?_⟩, ⟨?_, ?_⟩, ⟨?_, ?_⟩, ⟨?_, ?_⟩, ⟨?_, ?_⟩, ⟨?_, ?_⟩, ⟨?_, ?_⟩, trivial⟩
            · rfl
            · rintro ρ f W ⟨vs, us, hX⟩ hfi hw hcl hf
              have f25 : ρ (.tmp 25) = u25 := hf.1 25 (by simp [Op.operands])
              exact ok_value (v := u25) (w' := W) (by simp [execOp, f25]) (hX.pure 0 _ (by decide) (by decide) rfl hX.st)
            · rfl
            · rintro ρ f W ⟨vs, us, hX⟩ hfi hw hcl hf
              have f28 : ρ (.tmp 28) = .int .u8 (c : Int) := hf.1 28 (by simp [Op.operands])
              exact ok_value (v := .int .u8 (c : Int)) (w' := W) (by simp [execOp, f28]) (hX.pure 1 _ (by decide) (by decide) rfl hX.st)
            · rfl
            · rintro ρ f W ⟨vs, us, hX⟩ hfi hw hcl hf
              have f166 : ρ (.tmp 166) = .int .u8 (c : Int) := hX.val 1 _ _ (by decide) (by decide) (hf.1 166 (by simp [Op.operands])) rfl
              have hl := hX.le1 0 2 rfl hfi
              obtain rfl := list0 hl
              refine ok_value (v := .slice (some ⟨W.heap.size, 0, none⟩) 1 1) (w' := W.alloc (.cells #[.int .u8 (c : Int)] 5)) (by simp [execOp, f166, go_sem]) ?_
              exact hX.step1 2 _ rfl (by decide) (by decide) (SfS.new hX.st)
            · rfl
            · rintro ρ f W ⟨vs, us, hX⟩ hfi hw hcl hf
              have f165 : ρ (.tmp 165) = u25 := hX.val 0 _ _ (by decide) (by decide) (hf.1 165 (by simp [Op.operands, Call.operands])) rfl
              have g167 := hX.get1 0 2 rfl (hf.1 167 (by simp [Op.operands, Call.operands]))
              have hl := hX.le1 1 3 rfl hfi
              obtain ⟨p, rfl⟩ : ∃ p, vs = [p] := ⟨_, list1 hl g167⟩
              obtain ⟨h1, h2, h3, h4, h5, h6, h7, g, hpe, hg1, hg2⟩ := hX.st
              have f167 : ρ (.tmp 167) = .slice (some ⟨g, 0, none⟩) 1 1 := (Option.some.inj (show some p = some (ρ (.tmp 167)) from g167)).symm.trans hpe
              refine ok_appX (.tmp 165) (.tmp 167) rfl w9.heap.size u25 l [c] f165 h6 (some ⟨g, 0, none⟩) 1 1 f167 (byt_row1 hg2 (by have := HC52.out; omega)) (by have := HLL.out; omega) h1.size ?_
              intro v' w' k1 k2 k3
              exact hX.step1 3 _ rfl (by decide) (by decide) (SfS.app hX.st k1 k2 k3)
            · rfl
            · rintro ρ f W ⟨vs, us, hX⟩ hfi hw hcl hf
              have f33 : ρ (.tmp 33) = .pointer (some ⟨b33, 0, none⟩) := hf.1 33 (by simp [Op.operands])
              exact ok_value (exec_load_row 27 (.tmp 33) rfl b33 f33 hX.st.2.2.1 Tryd.underlying27 rfl (by rw [HQZ.out.1]; exact size_pos)) (hX.pure 4 _ (by decide) (by decide) rfl hX.st)
            · rfl
            · rintro ρ f W ⟨vs, us, hX⟩ hfi hw hcl hf
              have g168 := hX.get1 1 3 rfl (hf.1 168 (by simp [Op.operands]))
              have hl := hX.le1 2 5 rfl hfi
              obtain ⟨p0, rfl⟩ := list2 hl g168
              obtain ⟨h1, h2, h3, h4, h5, h6, h7⟩ := hX.st
              exact ok_value (v := ρ (.tmp 168)) (w' := W) (by simp [execOp, go_sem]) (hX.step1 5 _ rfl (by decide) (by decide) ⟨h1, h2, h3, h4, h5, h6, h7, rfl⟩)
            · rfl
            · rintro ρ f W ⟨vs, us, hX⟩ hfi hw hcl hf
              have f26 : ρ (.tmp 26) = .pointer (some ⟨b26, 0, none⟩) := hf.1 26 (by simp [Op.operands])
              have f169 : ρ (.tmp 169) = .agg QA := hX.val 4 _ _ (by decide) (by decide) (hf.1 169 (by simp [Op.operands])) rfl
              have hl := hX.le2 0 6 rfl hfi
              obtain rfl := list0 hl
              obtain ⟨h1, h2, h3, h4, h5, h6⟩ := hX.st
              have hr : Row W b26 27 PQ := h5
              exact ok_skip (exec_store_row 27 (.tmp 26) (.tmp 169) rfl b26 QA f26 f169 hr (by rw [HQZ.out.1]; exact size_pos) (by rw [HPQ.out, HQZ.out.1]) HQZ.out.2) (hX.step2 6 _ rfl (by decide) (by decide) (SfS.store hX.st HB33.out.1 HB33.out.2.1 HB33.out.2.2 _))
          case fini =>
            rintro us w22 hlen ⟨vs, us', hX⟩
            have hl0 : us.length = 7 := hlen
            match us, hl0 with
            | [y0, y1, y2, y3, y4, y5, y6], _ =>
              obtain ⟨p0, p1, rfl⟩ := list3 hX.l1 (hX.get1 2 5 rfl rfl)
              obtain ⟨z0, rfl⟩ : ∃ z, us' = [z] := ⟨_, list1 hX.l2 (hX.get2 0 6 rfl rfl)⟩
              have HST := Lib.hid hX.st
              clear hX hlen
              simp only [putAll, List.zip_cons_cons, List.zip_nil_right, List.foldl_cons, List.foldl_nil]
              simp only [Act.put, List.setIfInBounds_toArray, List.set_cons_succ, List.set_cons_zero]
              go_wp2_with fail
              go_roundg (M - (i + 1))
              case measure => omega
              case rel =>
                obtain ⟨h1, h2, h3, h4, h5, h6, h7, h8⟩ := HST.out
                subst h8
                exact ⟨i + 1, u, q2, xa, xc, _, l ++ [c], rfl, by omega, by go_num, rfl, ⟨by rw [HQA.out]; exact h5, h4, h6, h7, HNX.out.1, HNX.out.2.2, HNX.out.2.1, by rw [List.length_append, HSL.out.len]; rfl, HBN.out, fun y hy => by
                  rcases List.mem_append.1 hy with h | h
                  · exact HSL.out.c52 y h
                  · rcases List.mem_singleton.1 h with rfl; exact HC52.out, h1⟩⟩
        · obtain ⟨r, hr⟩ : ∃ z, i % len3 = z := ⟨_, rfl⟩
          have hrl : r < len3 := by rw [← hr]; exact Nat.mod_lt _ h30
          have hrI : (i : Int).tmod (len3 : Int) = (r : Int) := by rw [Int.tmod_eq_emod_of_nonneg (by omega), ← hr]; rfl
          have hrI2 : (i : Int) % (len3 : Int) = (r : Int) := by rw [← hr]; rfl
          have HZ3K := Lib.hid (HZ3.out.below (Nat.le_refl _) (HB9.out.trans (HSK.out.below.mono HW9.out)))
          have hsm3 := HZ3K.out.small
          obtain ⟨bz, oz, hza, -, hzc⟩ := HZ3K.out.at h30
          have ez := hzc r hrl
          have hpv := HZ3K.out.byte r
          obtain ⟨pv, hpve⟩ : ∃ z, zs3.getD r 0 = z := ⟨_, rfl⟩
          rw [hpve] at ez hpv
          obtain ⟨at0, hat⟩ : ∃ z, pv % N = z := ⟨_, rfl⟩
          have hatl : at0 < N := by rw [← hat]; exact Nat.mod_lt _ (by omega)
          have haI : (pv : Int).tmod (N : Int) = (at0 : Int) := by rw [Int.tmod_eq_emod_of_nonneg (by omega), ← hat]; rfl
          have haI2 : (pv : Int) % (N : Int) = (at0 : Int) := by rw [← hat]; rfl
          obtain ⟨c, hck, hcl⟩ := HAT.out at0 hatl
          have HLG := Lib.hid hcl
          have HTC : Hid (t.turn % 2 = sd → c = lineC ln t) := Lib.hid fun h => absurd h HNS.out
          subst hza
          have hd3 : decide (0 < len3) = true := by simp; omega
          clear hr hzc hpve hat hcl HAT HOC HZ3K
          go_upto_region 23 with fail
          clear hck ez hrI hrI2 haI haI2
          have HPL := Lib.hid (fun W hz => dm_Play_ok t.h t5 t.ld t.cs ua uc c HSK.out.pos.ok.w64 (by omega) (by have := HSK.out.pos.ok.ld; omega) W hz (HSK.out.pos.right (by omega)) HLG.out)
          have hte : Tb.mk t.h t.ld t.cs = t := rfl
          rw [hte] at HPL
          obtain ⟨q2, hp2, hq2, hw2, hk2⟩ := HSK.out.pos.put t5 (cards_pk HSK.out.pos.ok.pk HLG.out)
          have HNX := Lib.hid (And.intro hp2 (And.intro (Nat.le_trans hq2 HSK.out.q4) (hk2 (4 * q - (i + 1)) (by have := HSK.out.kq; have := HM.out; omega))))
          have HBN : Hid (∀ r, ByL sd t5 ln r (t.put t5 c).1 → ByL sd t5 ln (l ++ [c] ++ r) ⟨h, l4, []⟩) := Lib.hid fun r hr => by
            rw [List.append_assoc]
            exact HSK.out.byl (c :: r) ⟨HLG.out, HTC.out, hr⟩
          have HC52 : Hid (c < 52) := Lib.hid (mem_cards.1 (cards_pk HSK.out.pos.ok.pk HLG.out)).1
          have HLL : Hid (l.length < 16) := Lib.hid (by rw [HSK.out.len]; omega)
          obtain ⟨u, hu⟩ : ∃ u, (t.put t5 c).1 = u := ⟨_, rfl⟩
          obtain ⟨wk, hwk⟩ : ∃ x, (t.put t5 c).2 = x := ⟨_, rfl⟩
          rw [hu, hwk] at HPL
          rw [hu] at HNX HBN
          obtain ⟨ua', uc', hue, hyt⟩ := OwnU.playedX HSK.out.own HSK.out.pos.ok
          have hyt2 : Byt wK ua t.cs.length t.cs := by
            injection hue with e1 e2 e3
            rw [e1]; exact hyt
          have HYT := Lib.hid hyt2
          have HROW := Lib.hid HSK.out.row
          have HPQ : Hid ((posA t.h t5 t.ld (.slice ua t.cs.length uc)).size = 7) := Lib.hid rfl
          obtain ⟨PQ, hPQ⟩ : ∃ A, posA t.h t5 t.ld (.slice ua t.cs.length uc) = A := ⟨_, rfl⟩
          rw [hPQ] at HROW HPQ HPL
          clear hp2 hq2 hw2 hk2 hu hwk hue hyt hyt2 hte hPQ
          go_wp2_with (refine wpList_load_row rfl 27 (.tmp 26) rfl b26 rfl 27 PQ (0, 0) _ HROW.out Tryd.underlying27 rfl (by rw [HPQ.out]; exact size_pos) ?_)
          refine (HPL.out _ HYT.out).mono ?_
          rintro e w20 ⟨v5, rfl, hov, hb20⟩
          obtain ⟨xa, xc, rfl, -⟩ := hov.playedX HNX.out.1.ok
          have HQZ := Lib.hid (posA_one u.h t5 u.ld xa u.cs.length xc)
          have HAPX : Hid (Apt u25 (.slice xa u.cs.length xc)) := Lib.hid fun g hg hx => by
            have h1 := (HSK.out.cards.ltB g hg).2
            have h2 := (OwnU.ltB hov g hx).1
            omega
          obtain ⟨QA, hQA⟩ : ∃ A, posA u.h t5 u.ld (.slice xa u.cs.length xc) = A := ⟨_, rfl⟩
          have HQA := Lib.hid hQA
          rw [hQA] at HQZ ⊢
          have HN := Lib.hid (Row.new w20 27 zeroP)
          have ha := below_setRow ((Below.refl w20.heap.size w20).alloc (Nat.le_refl _) (.cells zeroP 27)) (Nat.le_refl _) QA
          have HQ6 := Lib.hid (show Row ((w20.alloc (.cells zeroP 27)).setRow w20.heap.size QA) w20.heap.size 27 QA from setRow_heap _ _ _ _ _ _ HN.out)
          have hbb := hb20.trans (ha.mono hb20.size)
          have HSL := Lib.hid (HSK.out.step hbb)
          have HRL := Lib.hid (HROW.out.later hbb)
          have HOV := Lib.hid (Owns.below (hov.mono (base' := w9.heap.size) HSK.out.below.size) ha)
          have HSZ : Hid (w20.heap.size < ((w20.alloc (.cells zeroP 27)).setRow w20.heap.size QA).heap.size) := Lib.hid HQ6.out.lt
          have HB20 : Hid (b26 < w20.heap.size) := Lib.hid (Nat.lt_of_lt_of_le HROW.out.lt hb20.size)
          clear hov hb20 ha hQA hbb HROW HYT HPL
          go_upto_region 24 with (refine wpList_store_row rfl 27 (.tmp 33) (.tmp 156) rfl w20.heap.size QA rfl rfl 27 _ HN.out (by rw [HQZ.out.1]; exact size_pos) (by rw [HQZ.out.1]; rfl) HQZ.out.2 ?_)
          generalize (w20.alloc (.cells zeroP 27)).setRow w20.heap.size QA = w21 at *
          obtain ⟨b33, hb33⟩ : ∃ b, w20.heap.size = b := ⟨_, rfl⟩
          rw [hb33] at HQ6 HSZ HB20 ⊢
          have HB33 : Hid (b26 < w21.heap.size ∧ b33 ≠ b26 ∧ w9.heap.size ≤ b26) := Lib.hid ⟨by have := HSZ.out; have := HB20.out; omega, by have := HB20.out; omega, Nat.le_of_eq HB26.out⟩
          clear hb33 HN
          go_upto_region 26 with fail
          refine wp_region_reliesT (ChF [u25, .int .u8 (c : Int), undef, undef, .agg QA, undef, undef] [2, 3, 5] [6] (SfS w9 w21 b26 b33 PQ QA (.slice xa u.cs.length xc) u25 u.cs l c)) (fun _ => true) (by kernel_rfl) (by kernel_rfl) (by kernel_rfl) (by kernel_rfl) (ChF.start ⟨HSL.out.below.drew, Nat.le_refl _, HQ6.out, Owns.drew HOV.out, HRL.out, Owns.drew HSL.out.cards, HAPX.out⟩) ?obls ?fini
          case obls =>
            refine ⟨⟨?_, ?_⟩, ⟨?_, ?_⟩, ⟨?_, ?_⟩, ⟨?_, ?_⟩, ⟨?_, ?_⟩, ⟨?_, ?_⟩, ⟨?_, ?_⟩, trivial⟩
            · rfl
            · rintro ρ f W ⟨vs, us, hX⟩ hfi hw hcl hf
              have f25 : ρ (.tmp 25) = u25 := hf.1 25 (by simp [Op.operands])
              exact ok_value (v := u25) (w' := W) (by simp [execOp, f25]) (hX.pure 0 _ (by decide) (by decide) rfl hX.st)
            · rfl
            · rintro ρ f W ⟨vs, us, hX⟩ hfi hw hcl hf
              have f28 : ρ (.tmp 28) = .int .u8 (c : Int) := hf.1 28 (by simp [Op.operands])
              exact ok_value (v := .int .u8 (c : Int)) (w' := W) (by simp [execOp, f28]) (hX.pure 1 _ (by decide) (by decide) rfl hX.st)
            · rfl
            · rintro ρ f W ⟨vs, us, hX⟩ hfi hw hcl hf
              have f166 : ρ (.tmp 166) = .int .u8 (c : Int) := hX.val 1 _ _ (by decide) (by decide) (hf.1 166 (by simp [Op.operands])) rfl
              have hl := hX.le1 0 2 rfl hfi
              obtain rfl := list0 hl
              refine ok_value (v := .slice (some ⟨W.heap.size, 0, none⟩) 1 1) (w' := W.alloc (.cells #[.int .u8 (c : Int)] 5)) (by simp [execOp, f166, go_sem]) ?_
              exact hX.step1 2 _ rfl (by decide) (by decide) (SfS.new hX.st)
            · rfl
            · rintro ρ f W ⟨vs, us, hX⟩ hfi hw hcl hf
              have f165 : ρ (.tmp 165) = u25 := hX.val 0 _ _ (by decide) (by decide) (hf.1 165 (by simp [Op.operands, Call.operands])) rfl
              have g167 := hX.get1 0 2 rfl (hf.1 167 (by simp [Op.operands, Call.operands]))
              have hl := hX.le1 1 3 rfl hfi
              obtain ⟨p, rfl⟩ : ∃ p, vs = [p] := ⟨_, list1 hl g167⟩
              obtain ⟨h1, h2, h3, h4, h5, h6, h7, g, hpe, hg1, hg2⟩ := hX.st
              have f167 : ρ (.tmp 167) = .slice (some ⟨g, 0, none⟩) 1 1 := (Option.some.inj (show some p = some (ρ (.tmp 167)) from g167)).symm.trans hpe
              refine ok_appX (.tmp 165) (.tmp 167) rfl w9.heap.size u25 l [c] f165 h6 (some ⟨g, 0, none⟩) 1 1 f167 (byt_row1 hg2 (by have := HC52.out; omega)) (by have := HLL.out; omega) h1.size ?_
              intro v' w' k1 k2 k3
              exact hX.step1 3 _ rfl (by decide) (by decide) (SfS.app hX.st k1 k2 k3)
            · rfl
            · rintro ρ f W ⟨vs, us, hX⟩ hfi hw hcl hf
              have f33 : ρ (.tmp 33) = .pointer (some ⟨b33, 0, none⟩) := hf.1 33 (by simp [Op.operands])
              exact ok_value (exec_load_row 27 (.tmp 33) rfl b33 f33 hX.st.2.2.1 Tryd.underlying27 rfl (by rw [HQZ.out.1]; exact size_pos)) (hX.pure 4 _ (by decide) (by decide) rfl hX.st)
            · rfl
            · rintro ρ f W ⟨vs, us, hX⟩ hfi hw hcl hf
              have g168 := hX.get1 1 3 rfl (hf.1 168 (by simp [Op.operands]))
              have hl := hX.le1 2 5 rfl hfi
              obtain ⟨p0, rfl⟩ := list2 hl g168
              obtain ⟨h1, h2, h3, h4, h5, h6, h7⟩ := hX.st
              exact ok_value (v := ρ (.tmp 168)) (w' := W) (by simp [execOp, go_sem]) (hX.step1 5 _ rfl (by decide) (by decide) ⟨h1, h2, h3, h4, h5, h6, h7, rfl⟩)
            · rfl
            · rintro ρ f W ⟨vs, us, hX⟩ hfi hw hcl hf
              have f26 : ρ (.tmp 26) = .pointer (some ⟨b26, 0, none⟩) := hf.1 26 (by simp [Op.operands])
              have f169 : ρ (.tmp 169) = .agg QA := hX.val 4 _ _ (by decide) (by decide) (hf.1 169 (by simp [Op.operands])) rfl
              have hl := hX.le2 0 6 rfl hfi
              obtain rfl := list0 hl
              obtain ⟨h1, h2, h3, h4, h5, h6⟩ := hX.st
              have hr : Row W b26 27 PQ := h5
              exact ok_skip (exec_store_row 27 (.tmp 26) (.tmp 169) rfl b26 QA f26 f169 hr (by rw [HQZ.out.1]; exact size_pos) (by rw [HPQ.out, HQZ.out.1]) HQZ.out.2) (hX.step2 6 _ rfl (by decide) (by decide) (SfS.store hX.st HB33.out.1 HB33.out.2.1 HB33.out.2.2 _))
          case fini =>
            rintro us w22 hlen ⟨vs, us', hX⟩
            have hl0 : us.length = 7 := hlen
            match us, hl0 with
            | [y0, y1, y2, y3, y4, y5, y6], _ =>
              obtain ⟨p0, p1, rfl⟩ := list3 hX.l1 (hX.get1 2 5 rfl rfl)
              obtain ⟨z0, rfl⟩ : ∃ z, us' = [z] := ⟨_, list1 hX.l2 (hX.get2 0 6 rfl rfl)⟩
              have HST := Lib.hid hX.st
              clear hX hlen
              simp only [putAll, List.zip_cons_cons, List.zip_nil_right, List.foldl_cons, List.foldl_nil]
              simp only [Act.put, List.setIfInBounds_toArray, List.set_cons_succ, List.set_cons_zero]
              go_wp2_with fail
              go_roundg (M - (i + 1))
              case measure => omega
              case rel =>
                obtain ⟨h1, h2, h3, h4, h5, h6, h7, h8⟩ := HST.out
                subst h8
                exact ⟨i + 1, u, q2, xa, xc, _, l ++ [c], rfl, by omega, by go_num, rfl, ⟨by rw [HQA.out]; exact h5, h4, h6, h7, HNX.out.1, HNX.out.2.2, HNX.out.2.1, by rw [List.length_append, HSL.out.len]; rfl, HBN.out, fun y hy => by
                  rcases List.mem_append.1 hy with h | h
                  · exact HSL.out.c52 y h
                  · rcases List.mem_singleton.1 h with rfl; exact HC52.out, h1⟩⟩
    · obtain rfl : i = M := by omega
      have hdk : decide (i < i) = false := by simp
      obtain rfl : q1 = 0 := by have := HSK.out.kq; have := HSK.out.pos.ok.pk.2; have := HM.out; omega
      have HCN : Hid (canM t = 0) := Lib.hid (can_zero HSK.out.pos.ok HSK.out.pos.evn)
      have HNX := Lib.hid (cl_Next_none t.h t5 t.ld t.cs ua uc sd 0 ln la lcap HSK.out.pos.ok.w64 (by omega) HLD.out hs2 wr HYT.out (by rw [hnl]; exact HYK.out) HTK.out 0 HTN.out HRT.out (HLC.out 0) HLO.out.2.2 (by rw [hte]; exact HCN.out))
      rw [hnl, hcm] at HNX
      have hby0 := HSK.out.byl [] trivial
      rw [List.append_nil] at hby0
      have hlen0 : l.length = 4 * q := by rw [HSK.out.len, HM.out]
      have HLE := Lib.hid (HBYL.out l hlen0 hby0)
      have HTRL := Lib.hid (HTRK.out l hby0.plays (by simpa using hlen0))
      obtain ⟨ca, cc, hce, hcb, -⟩ := LnM.of_own HSK.out.cards (by rw [hlen0]; omega) HSK.out.c52
      have HCB := Lib.hid hcb
      subst hce
      obtain ⟨ll, hll⟩ : ∃ z, l.length = z := ⟨_, rfl⟩
      rw [hll] at HCB ⊢
      obtain ⟨tv, htv⟩ : ∃ z, trk sd t5 l ⟨h, l4, []⟩ = z := ⟨_, rfl⟩
      rw [htv] at HLE HTRL
      obtain ⟨PQ0, hPQ0⟩ : ∃ A, posA t.h t5 t.ld (.slice ua t.cs.length uc) = A := ⟨_, rfl⟩
      rw [hPQ0] at HNX HRW HPQ0
      have HRK := Lib.hid (HR9.out.later HSK.out.below)
      clear hlt hte hnl hcm hPQ0 hby0 hlen0 hcb hll htv
      go_upto_region 28 with fail
      go_wp2_with (first
        | refine wpList_load_row rfl 27 (.tmp 26) rfl b26 rfl 27 PQ0 (0, 0) _ HRW.out Tryd.underlying27 rfl (by rw [HPQ0.out]; exact size_pos) ?_
        | refine wpList_load_row rfl 44 (.tmp 16) rfl bc rfl 44 CA (0, 0) _ HCK.out Tryd.underlying44 rfl (by rw [HCZ.out]; exact size_cm) ?_)
      refine HNX.out.mono ?_
      rintro e wJ ⟨rfl, hb⟩
      have HRJ := Lib.hid (HRK.out.later hb)
      have HCJ := Lib.hid (HCK.out.later hb)
      have HCB := Lib.hid (HCB.out.below (Nat.le_refl _) hb)
      have HBJ := Lib.hid (HBK.out.trans (hb.mono HBK.out.size))
      clear hb HRK HCK HBK HRW HYT HYK HTK HNX
      have c0 : wJ.cell? ⟨bc, 0, none⟩ = some (.int .u8 (sd : Int)) := (HCJ.out.cell 0).trans HC0.out
      go_upto_region 31 with fail
      go_wp2_with (refine wpList_load_row rfl 27 (.tmp 15) rfl bp rfl 27 PA (0, 0) _ HRJ.out Tryd.underlying27 rfl (by rw [HPZ.out.1]; exact size_pos) ?_)
      refine (HTRL.out wJ _ _ _ HCB.out).mono ?_
      rintro e wL ⟨rfl, hb⟩
      have HBL := Lib.hid (HBJ.out.trans (hb.mono HBJ.out.size))
      have HAK := Lib.hid (cl_awake wL (HT.out.below HT.out.pos HBL.out))
      have hle := HLE.out
      have hd : decide (y ≤ tv) = true := by simp; omega
      clear hb c0 HCB
      go_wp2_with fail
      refine HAK.out.mono ?_
      rintro e w14 ⟨rfl, hb9⟩
      have HB14 := Lib.hid (HBL.out.trans (hb9.mono HBL.out.size))
      clear hb9
      go_wp2_with fail
      go_ret
      exact ⟨rfl, HB14.out⟩
end Go.Proofs.YtnbillhodbcfbaaDoor
