/- claim.Against over this seat's program. -/
import Derived.Test.YtnbillhodbcfbaaDoorMClq
namespace Go.Proofs.YtnbillhodbcfbaaDoor
open Go.RowKit Go.Sort Go.Shelf Go.Maps Go.WideMaps

/-- the card that Against plays -/
def agC (sd tr : Nat) (ln : List Nat) (n : Nat) (t : Tb) : Nat := if t.turn % 2 = sd then lineC ln t else (wsF (worthM sd tr false ln n t) t.cards).1
/-- the play of Against -/
def agL (sd tr : Nat) (ln : List Nat) : Nat → Tb → List Nat
  | 0, _ => []
  | n + 1, t => agC sd tr ln n t :: agL sd tr ln n (t.put tr (agC sd tr ln n t)).1
theorem agL_len (sd tr : Nat) (ln : List Nat) : ∀ n t, (agL sd tr ln n t).length = n
  | 0, _ => rfl
  | n + 1, t => by show (_ :: agL sd tr ln n _).length = n + 1; rw [List.length_cons, agL_len]
theorem lineC_mem {t : Tb} (h : TbOk t) (h0 : canM t ≠ 0) (ln : List Nat) : t.legal (lineC ln t) = true := by
  have h1 := (lineM_one h h0 ln).2
  exact lineL_legal (line := ln) (t := t) (c := lineC ln t) (by rw [h1]; exact List.mem_singleton.2 rfl)
theorem wsF_mem {g : Nat → Nat} {l : List Nat} (h : l ≠ []) (hg : ∀ c ∈ l, g c < 7) : (wsF g l).1 ∈ l := by
  have key : ∀ l : List Nat, (wsF g l = (0, 7) ∧ ∀ c ∈ l, 7 ≤ g c) ∨ (wsF g l).1 ∈ l := fun l => by
    refine snoc_ind (P := fun l => (wsF g l = (0, 7) ∧ ∀ c ∈ l, 7 ≤ g c) ∨ (wsF g l).1 ∈ l) (.inl ⟨rfl, fun c h => by cases h⟩) (fun l x ih => ?_) l
    rw [wsF_snoc]
    split
    · exact .inr (List.mem_append_right _ (List.mem_singleton.2 rfl))
    · rename_i hx
      rcases ih with ⟨h1, h2⟩ | h
      · refine .inl ⟨h1, fun c hc => ?_⟩
        rcases List.mem_append.1 hc with h | h
        · exact h2 c h
        · rcases List.mem_singleton.1 h with rfl
          rw [h1] at hx
          exact Nat.le_of_not_lt hx
      · exact .inr (List.mem_append_left _ h)
  rcases key l with ⟨_, h2⟩ | h1
  · obtain ⟨c, hc⟩ := List.exists_mem_of_ne_nil l h
    have := h2 c hc
    have := hg c hc
    omega
  · exact h1
/-- between the rounds of Against: k cards are left -/
structure AG (P : Prm) (x b1 base : Nat) (PA CA : Array Value) (sd tr : Nat) (ln L : List Nat) (M k y : Nat) (u : Tb) (v : Value) (Pl : List Nat) (W : World) : Prop where
  pos : Row W b1 27 PA
  clm : Row W (b1 + 1) 44 CA
  tab : Row W y 87 (tbA u)
  tg : ∃ q, TbG q u ∧ k + u.cs.length = 4 * q ∧ q ≤ 4
  env : Env P x (5 ^ M - 5 ^ k) W
  own : OwnU W base v Pl
  sum : Pl ++ agL sd tr ln k u = L
  kM : k ≤ M ∧ M ≤ 16
  yb : base ≤ y
  xb : b1 + 1 < x ∧ x + 7 ≤ base
  len : Pl.length ≤ 16
/-- what Against gives back -/
def AgainstOk (L : List Nat) (w : World) (e : Ending) (w' : World) : Prop := ∃ v, e = .returned (.tuple #[v, .int .i64 0]) ∧ OwnU w' w.heap.size v L ∧ Below w.heap.size w w'
set_option maxHeartbeats 1000000 in
set_option maxRecDepth 10000 in
theorem cl_Against_no (h : Nat → Nat) (tr ld : Nat) (ps : List Nat) (a : Option Addr) (cap : Nat) (sd : Nat) (tk : Int) (ln : List Nat) (la : Option Addr) (lcap : Nat) (hw : ∀ s, W64 (h s)) (htr : tr < 256) (hld : ld < 256) (hsd : sd < 256) (w : World) (hz : Byt w a ps.length ps) (hl : Byt w la ln.length ln) (hr : (rightB h tr ld ps && claimB sd tk ln (pop (h ((ld + ps.length) % 4)))) = false) :
    Calls Tryd.prog 20 #[.agg (posA h tr ld (.slice a ps.length cap)), .agg (cmA sd tk (.slice la ln.length lcap))] w fun e w' => e = .returned (.tuple #[.slice none 0 0, .int .i64 2]) ∧ Below w.heap.size w w' := by
  have hb1 := (Below.refl w.heap.size w).alloc (Nat.le_refl _) (.cells (posA h tr ld (.slice a ps.length cap)) 27)
  have hb2 := hb1.alloc hb1.size (.cells (cmA sd tk (.slice la ln.length lcap)) 44)
  have HRI := Lib.hid (cl_Right h tr ld ps a cap sd tk ln la lcap hw htr hld hsd _ (hz.below (Nat.le_refl _) hb2) (hl.below (Nat.le_refl _) hb2))
  have HB := Lib.hid hb2
  have HR := Lib.hid ((Row.new w 27 (posA h tr ld (.slice a ps.length cap))).alloc (.cells (cmA sd tk (.slice la ln.length lcap)) 44))
  have HC := Lib.hid (Row.new (w.alloc (.cells (posA h tr ld (.slice a ps.length cap)) 27)) 44 (cmA sd tk (.slice la ln.length lcap)))
  have hsz : (w.alloc (.cells (posA h tr ld (.slice a ps.length cap)) 27)).heap.size = w.heap.size + 1 := by simp
  rw [hsz] at HC
  clear hb1 hb2 hsz
  obtain ⟨PA, hPA⟩ : ∃ A, posA h tr ld (.slice a ps.length cap) = A := ⟨_, rfl⟩
  have HPA := Lib.hid hPA
  have HZ : Hid (PA.size = 7) := Lib.hid (by rw [← hPA]; rfl)
  obtain ⟨CA, hCA⟩ : ∃ A, cmA sd tk (.slice la ln.length lcap) = A := ⟨_, rfl⟩
  have HCA := Lib.hid hCA
  have HCZ : Hid (CA.size = 3) := Lib.hid (by rw [← hCA]; rfl)
  rw [hPA] at HRI HB HR HC ⊢
  rw [hCA] at HRI HB HR HC ⊢
  rw [hr] at HRI
  clear hr
  clear hPA hCA hz hl hw
  go_enter Tryd.func20, Tryd.ntmps20
  go_upto_region 1 with fail
  generalize (w.alloc (.cells PA 27)).alloc (.cells CA 44) = wa at *
  go_wp2_with (first
    | refine wpList_load_row rfl 27 (.tmp 2) rfl w.heap.size rfl 27 PA (0, 0) _ HR.out Tryd.underlying27 rfl (by rw [HZ.out]; exact size_pos) ?_
    | refine wpList_load_row rfl 44 (.tmp 3) rfl (w.heap.size + 1) rfl 44 CA (0, 0) _ HC.out Tryd.underlying44 rfl (by rw [HCZ.out]; exact size_cm) ?_)
  refine HRI.out.mono ?_
  rintro e w2 ⟨rfl, hb2⟩
  have HB2 := Lib.hid (HB.out.trans (hb2.mono HB.out.size))
  have HR2 := Lib.hid (HR.out.later hb2)
  have HC2 := Lib.hid (HC.out.later hb2)
  clear hb2 HR HB HC
  go_wp2_with fail
  go_ret2
  exact ⟨rfl, HB2.out⟩
set_option maxHeartbeats 4000000 in
set_option maxRecDepth 10000 in
theorem cl_Against_ok (h : Nat → Nat) (tr ld : Nat) (ps : List Nat) (a : Option Addr) (cap : Nat) (sd : Nat) (tk : Int) (ln : List Nat) (la : Option Addr) (lcap : Nat) (hw : ∀ s, W64 (h s)) (htr : tr < 256) (hld : ld < 256) (hsd2 : sd < 2) (w : World) (hz : Byt w a ps.length ps) (hl : Byt w la ln.length ln) (hln : ∀ b off, la = some ⟨b, off, none⟩ → b < w.heap.size) (hT : Tab w) (q : Nat) (hq : pop (h ((ld + ps.length) % 4)) = q) (hq4 : q ≤ 4) (hr : rightB h tr ld ps = true) (hc : claimB sd tk ln q = true) (h52 : ∀ y ∈ ln, y < 52) :
    Calls Tryd.prog 20 #[.agg (posA h tr ld (.slice a ps.length cap)), .agg (cmA sd tk (.slice la ln.length lcap))] w (AgainstOk (agL sd tr ln (4 * q - ps.length) ⟨h, ld, ps⟩) w) := by
  have hsd : sd < 256 := by omega
  have hb1 := (Below.refl w.heap.size w).alloc (Nat.le_refl _) (.cells (posA h tr ld (.slice a ps.length cap)) 27)
  have hb2 := hb1.alloc hb1.size (.cells (cmA sd tk (.slice la ln.length lcap)) 44)
  have HRI := Lib.hid (cl_Right h tr ld ps a cap sd tk ln la lcap hw htr hld hsd _ (hz.below (Nat.le_refl _) hb2) (hl.below (Nat.le_refl _) hb2))
  have HB := Lib.hid hb2
  have HR := Lib.hid ((Row.new w 27 (posA h tr ld (.slice a ps.length cap))).alloc (.cells (cmA sd tk (.slice la ln.length lcap)) 44))
  have HC := Lib.hid (Row.new (w.alloc (.cells (posA h tr ld (.slice a ps.length cap)) 27)) 44 (cmA sd tk (.slice la ln.length lcap)))
  have hsz : (w.alloc (.cells (posA h tr ld (.slice a ps.length cap)) 27)).heap.size = w.heap.size + 1 := by simp
  rw [hsz] at HC
  clear hb1 hb2 hsz
  obtain ⟨PA, hPA⟩ : ∃ A, posA h tr ld (.slice a ps.length cap) = A := ⟨_, rfl⟩
  have HPA := Lib.hid hPA
  have HZ : Hid (PA.size = 7) := Lib.hid (by rw [← hPA]; rfl)
  obtain ⟨CA, hCA⟩ : ∃ A, cmA sd tk (.slice la ln.length lcap) = A := ⟨_, rfl⟩
  have HCA := Lib.hid hCA
  have HCZ : Hid (CA.size = 3) := Lib.hid (by rw [← hCA]; rfl)
  rw [hPA] at HRI HB HR HC ⊢
  rw [hCA] at HRI HB HR HC ⊢
  rw [hr, hq, hc, Bool.true_and] at HRI
  have HY := Lib.hid hz
  have HLY := Lib.hid hl
  have HSD := Lib.hid hsd2
  have H52 := Lib.hid h52
  have HLNB := Lib.hid hln
  have HTW := Lib.hid hT
  have hRP := right_of hw hr
  rw [hq] at hRP
  have h3 := hRP.ok.pk.2
  have h3' : ps.length ≤ 3 := Nat.le_of_lt_succ h3
  have HST := Lib.hid (fun W hzW => cl_start h tr ld ps a cap h3' W hzW)
  have HM := Lib.hid (show (4 * q - ps.length) + ps.length = 4 * q from by
    have := hRP.some
    have : ps.length < 4 := h3
    omega)
  have HQ4 := Lib.hid hq4
  have HTR := Lib.hid htr
  obtain ⟨T, hTT⟩ : ∃ t : Tb, Tb.mk h ld ps = t := ⟨_, rfl⟩
  have HTK := Lib.hid (show TbG q T from by rw [← hTT]; exact ⟨hRP.ok, hRP.uniq, hRP.evn⟩)
  have HTL := Lib.hid (show T.cs.length = ps.length from by rw [← hTT])
  rw [hTT] at HST ⊢
  rw [hPA] at HST
  obtain ⟨M, hMM⟩ : ∃ M, 4 * q - ps.length = M := ⟨_, rfl⟩
  rw [hMM] at HM ⊢
  obtain ⟨L, hLL⟩ : ∃ L, agL sd tr ln M T = L := ⟨_, rfl⟩
  have HLL := Lib.hid hLL
  rw [hLL]
  obtain ⟨TA, hTA⟩ : ∃ A, tbA T = A := ⟨_, rfl⟩
  have HTA := Lib.hid hTA
  have HTZ : Hid ((Tryd.prog.info? 87).map (·.size) = some TA.size ∧ TA.size = 10 ∧ TA.all (·.oneCell') = true) := Lib.hid (by rw [← hTA]; exact ⟨size_ct, rfl, tbA_one _⟩)
  rw [hTA] at HST
  obtain ⟨n, hn⟩ : ∃ n, ln.length = n := ⟨_, rfl⟩
  have HNL := Lib.hid hn
  rw [hn] at hCA HCA
  have HC0 : Hid (CA[0]? = some (.int .u8 (sd : Int)) ∧ CA[2]? = some (.slice la n lcap)) := Lib.hid (by rw [← hCA]; exact ⟨rfl, rfl⟩)
  have HP4 : Hid (PA[4]? = some (.int .u8 (tr : Int))) := Lib.hid (by rw [← hPA]; rfl)
  clear hPA hCA hz hl hr hw hRP h3 h3' hq hT hTT hn h52 hTA hc hMM hLL hln hq4 htr hsd2 hsd
  go_enter Tryd.func20, Tryd.ntmps20
  go_upto_region 1 with fail
  generalize (w.alloc (.cells PA 27)).alloc (.cells CA 44) = wa at *
  go_wp2_with (first
    | refine wpList_load_row rfl 27 (.tmp 2) rfl w.heap.size rfl 27 PA (0, 0) _ HR.out Tryd.underlying27 rfl (by rw [HZ.out]; exact size_pos) ?_
    | refine wpList_load_row rfl 44 (.tmp 3) rfl (w.heap.size + 1) rfl 44 CA (0, 0) _ HC.out Tryd.underlying44 rfl (by rw [HCZ.out]; exact size_cm) ?_)
  refine HRI.out.mono ?_
  rintro e w2 ⟨rfl, hb2⟩
  have HB2 := Lib.hid (HB.out.trans (hb2.mono HB.out.size))
  have HR2 := Lib.hid (HR.out.later hb2)
  have HC2 := Lib.hid (HC.out.later hb2)
  clear hb2 HR HB HC
  have c2 : w2.cell? ⟨w.heap.size + 1, 2, none⟩ = some (.slice la n lcap) := (HC2.out.cell 2).trans HC0.out.2
  go_upto_region 4 with fail
  go_wp2_with fail
  refine (cl_byLine la n lcap w2).mono ?_
  rintro e w3 ⟨rfl, rfl⟩
  have HRL := Lib.hid (Row.new w2 25 #[.slice la n lcap])
  have ha := (Below.refl w2.heap.size w2).alloc (Nat.le_refl _) (.cells #[.slice la n lcap] 25)
  have HB3 := Lib.hid (HB2.out.trans (ha.mono HB2.out.size))
  have HR3 := Lib.hid (HR2.out.later ha)
  have HC3 := Lib.hid (HC2.out.later ha)
  have HC2L := Lib.hid (show w.heap.size + 1 < w2.heap.size from HC2.out.lt)
  clear ha c2 HR2 HC2
  generalize w2.alloc (.cells #[.slice la n lcap] 25) = w3 at *
  obtain ⟨bl, hbl⟩ : ∃ b, w2.heap.size = b := ⟨_, rfl⟩
  rw [hbl] at HRL HC2L ⊢
  clear hbl
  have c4 := (HR3.out.cell 4).trans HP4.out
  have c0 := (HC3.out.cell 0).trans HC0.out.1
  have hTT := HTW.out.below HTW.out.pos HB3.out
  have hcr : LnR w3.heap.size ln bl la lcap w3 := ⟨HRL.out.lt, by rw [HNL.out]; exact HRL.out, HLY.out.below (Nat.le_refl _) HB3.out, fun b off e => Nat.lt_of_lt_of_le (HLNB.out b off e) HB3.out.size⟩
  have HLE := Lib.hid (cl_least (sureP w3.heap.size tr sd ln bl la lcap) w3 (sureP_ok HTR.out HSD.out H52.out) hTT hTT.pos hcr)
  obtain ⟨x, hx⟩ : ∃ b, w3.heap.size = b := ⟨_, rfl⟩
  have HX3 : Hid (bl < x ∧ w.heap.size + 1 < x) := Lib.hid (by have h1 := HRL.out.lt; have h2 := HC2L.out; omega)
  have HX : Hid (w3.heap.size = x) := Lib.hid hx
  have hok : (sureP x tr sd ln bl la lcap).ok x := sureP_ok HTR.out HSD.out H52.out
  rw [hx] at HLE
  have HPE : Hid ((sureP x tr sd ln bl la lcap).tr = tr ∧ (sureP x tr sd ln bl la lcap).sd = sd) := Lib.hid ⟨rfl, rfl⟩
  have HCR : Hid (∀ W, (sureP x tr sd ln bl la lcap).CR W → LnR x ln bl la lcap W) := Lib.hid fun W h => h
  have HWO : Hid (∀ k u, (sureP x tr sd ln bl la lcap).wo k u = worthM sd tr false ln k u) := Lib.hid fun k u => rfl
  have HMN : Hid (∀ k u, (sureP x tr sd ln bl la lcap).mn k u = mn sd tr false ln k u) := Lib.hid fun k u => rfl
  have HLE : Hid (Calls Tryd.prog 41 #[.int .u8 (tr : Int), .int .u8 (sd : Int), .func (Fn.func 71) #[] #[.pointer (some ⟨bl, 0, none⟩)], .func (Fn.func 43) #[] #[]] w3 fun e w' => e = .returned (folV x) ∧ Env (sureP x tr sd ln bl la lcap) x 0 w' ∧ Below x w3 w') := HLE
  have HOKP := Lib.hid hok
  generalize sureP x tr sd ln bl la lcap = P at *
  clear hTT hcr hx hok
  go_wp2_with fail
  refine HLE.out.mono ?_
  rintro e w4 ⟨rfl, hE4, hb4⟩
  rw [← HX.out] at hb4
  unfold folV
  have HE4 := Lib.hid hE4
  have HB4 := Lib.hid (HB3.out.trans (hb4.mono HB3.out.size))
  have HR4 := Lib.hid (HR3.out.later hb4)
  have HC4 := Lib.hid (HC3.out.later hb4)
  clear hE4 hb4 HLE HB3 HR3 HC3 c4 c0
  go_wp2_with (refine wpList_load_row rfl 27 (.tmp 2) rfl w.heap.size rfl 27 PA (0, 0) _ HR4.out Tryd.underlying27 rfl (by rw [HZ.out]; exact size_pos) ?_)
  refine (HST.out w4 (HY.out.below (Nat.le_refl _) HB4.out)).mono ?_
  rintro e w5 ⟨rfl, hb5⟩
  have HN := Lib.hid (Row.new w5 87 zeroT)
  have ha := below_setRow ((Below.refl w5.heap.size w5).alloc (Nat.le_refl _) (.cells zeroT 87)) (Nat.le_refl _) TA
  have HTR5 := Lib.hid (show Row ((w5.alloc (.cells zeroT 87)).setRow w5.heap.size TA) w5.heap.size 87 TA from setRow_heap _ _ _ _ _ _ HN.out)
  have hbb := hb5.trans (ha.mono hb5.size)
  have HB6 := Lib.hid (HB4.out.trans (hbb.mono HB4.out.size))
  have HC6 := Lib.hid (HC4.out.later hbb)
  have HR6 := Lib.hid (HR4.out.later hbb)
  have HE6 := Lib.hid (HE4.out.later HOKP.out hbb)
  have HYB : Hid (x + 7 ≤ w5.heap.size) := Lib.hid (by have h1 := HE4.out.mlt; have h2 := hb5.size; omega)
  clear hb5 ha hbb HR4 HC4 HE4
  go_upto_region 7 with (refine wpList_store_row rfl 87 (.tmp 9) (.tmp 25) rfl w5.heap.size TA rfl rfl 87 _ HN.out HTZ.out.1 (by rw [HTZ.out.2.1]; rfl) HTZ.out.2.2 ?_)
  generalize (w5.alloc (.cells zeroT 87)).setRow w5.heap.size TA = w6 at *
  obtain ⟨y0, hy⟩ : ∃ b, w5.heap.size = b := ⟨_, rfl⟩
  rw [hy] at HTR5 HYB ⊢
  clear hy HN
  obtain ⟨b1, hb1⟩ : ∃ b, w.heap.size = b := ⟨_, rfl⟩
  have HB1 := Lib.hid hb1
  rw [hb1] at HC6 HR6 HX3 ⊢
  clear hb1
  have HL0 : Hid (∀ v W, OwnU W y0 v L → Below w.heap.size w W → AgainstOk L w (.returned (.tuple #[v, .int .i64 0])) W) := Lib.hid fun v W h1 h2 => ⟨v, rfl, h1.mono (by have h3 := HB1.out; have h4 := HYB.out; have h5 := HX3.out; omega), h2⟩
  try dsimp only [Act.put]
  go_loopg [6, 9] M (fun k ll yy wr => ∃ (y : Nat) (u : Tb) (Pl : List Nat), yy = .pointer (some ⟨y, 0, none⟩) ∧ AG P x b1 y0 PA CA sd tr ln L M k y u ll Pl wr ∧ Below w.heap.size w wr)
  case atStart =>
    refine ⟨y0, T, [], rfl, ⟨HR6.out, HC6.out, by rw [HTA.out]; exact HTR5.out, ⟨q, HTK.out, by rw [HTL.out]; exact HM.out, HQ4.out⟩, by rw [Nat.sub_self]; exact HE6.out, Owns.nil encU_len _ _, HLL.out, ⟨Nat.le_refl _, by have := HM.out; have := HQ4.out; omega⟩, Nat.le_refl _, ⟨HX3.out.2, HYB.out⟩, by simp⟩, HB6.out⟩
  case round =>
    clear HC6 HR6 HE6 HTR5 HB6
    obtain ⟨y, u, Pl, rfl, hAG, hBw⟩ := hrel
    have HAG := Lib.hid hAG
    have HBW := Lib.hid hBw
    clear hAG hBw
    have HUT := Lib.hid HAG.out.tab
    obtain ⟨qu, hgu, hku, hqu⟩ := HAG.out.tg
    have HG := Lib.hid hgu
    have HKU := Lib.hid hku
    have HQU := Lib.hid hqu
    clear hgu hku hqu
    have HCA2 := Lib.hid (fun W => cl_can u HG.out.ok W)
    have HTN := Lib.hid (fun W => cl_turn u HG.out.ok W)
    obtain ⟨UA, hUA⟩ : ∃ A, tbA u = A := ⟨_, rfl⟩
    have HUA := Lib.hid hUA
    have HUZ : Hid ((Tryd.prog.info? 87).map (·.size) = some UA.size ∧ UA.size = 10 ∧ UA.all (·.oneCell') = true) := Lib.hid (by rw [← hUA]; exact ⟨size_ct, rfl, tbA_one _⟩)
    rw [hUA] at HUT HCA2 HTN
    clear hUA
    have hut0 := HUT.out
    rcases Nat.eq_zero_or_pos gk with hk0 | hk0
    · have hcz : canM u = 0 := by
        have h4 := HG.out.ok.pk.2
        have h5 := HKU.out
        obtain rfl : qu = 0 := by omega
        exact can_zero HG.out.ok HG.out.ev
      rw [hcz] at HCA2
      have HSUM : Hid (Pl = L) := Lib.hid (by have := HAG.out.sum; rw [hk0] at this; simpa [agL] using this)
      clear hcz hk0
      simp only [show ((0 : Nat) : Int) = 0 from rfl] at HCA2
      go_wp2_with (refine wpList_load_row rfl 87 (.tmp 9) rfl y rfl 87 UA (0, 0) _ hut0 Tryd.underlying87 rfl HUZ.out.1 ?_)
      refine (HCA2.out _).mono ?_
      rintro e w7 ⟨rfl, hb7⟩
      have HB7 := Lib.hid hb7
      clear hb7
      go_wp2_with fail
      go_ret2
      exact HL0.out _ _ (by have h := HAG.out.own.below HB7.out; rw [HSUM.out] at h; exact h) (HBW.out.trans (HB7.out.mono HBW.out.size))
    · obtain ⟨k, rfl⟩ : ∃ k, gk = k + 1 := ⟨gk - 1, by omega⟩
      have hcz : canM u ≠ 0 := HG.out.can (by have := HKU.out; omega)
      have HCZ := Lib.hid hcz
      have hczb : ((canM u : Int) != 0) = true := by rw [bne_iff_ne]; omega
      clear hk0 hcz
      obtain ⟨cu, hcu⟩ : ∃ x, canM u = x := ⟨_, rfl⟩
      rw [hcu] at hczb HCA2
      clear hcu
      go_wp2_with (refine wpList_load_row rfl 87 (.tmp 9) rfl y rfl 87 UA (0, 0) _ hut0 Tryd.underlying87 rfl HUZ.out.1 ?_)
      refine (HCA2.out _).mono ?_
      rintro e w7 ⟨rfl, hb7⟩
      have HBB := Lib.hid hb7
      have HY5 := Lib.hid (HUT.out.later hb7)
      have HCC := Lib.hid (HAG.out.clm.later hb7)
      clear hb7
      have hul4 := u.turn_lt
      obtain ⟨ut, hut⟩ : ∃ z, u.turn = z := ⟨_, rfl⟩
      rw [hut] at HTN hul4
      obtain ⟨rr, hrr⟩ : ∃ z, ut % 2 = z := ⟨_, rfl⟩
      have HRR : Hid (u.turn % 2 = rr) := Lib.hid (by rw [hut, hrr])
      go_upto_region 9 with fail
      have hy0 := HY5.out
      have cS : w7.cell? ⟨b1 + 1, 0, none⟩ = some (.int .u8 (sd : Int)) := (HCC.out.cell 0).trans HC0.out.1
      have rS := fun dd os => cell_regrown cS dd os
      have hm1 : (ut : Int).tmod 2 = (rr : Int) := by rw [Int.tmod_eq_emod_of_nonneg (by omega)]; omega
      have hm2 : (ut : Int) % 2 = (rr : Int) := by omega
      have hm3 : IntKind.u8.wrap (rr : Int) = (rr : Int) := by rw [IntKind.wrap_u8]; omega
      clear hrr hut hczb
      refine wp_region_quiet_below (by kernel_rfl) (by kernel_rfl) ?_
      repeat (first
        | go_big_quiet_step (fail)
        | quiet_step (with_reducible exact Calls.regrown_of (HTN.out _))
        | (refine quiet_rowC (by rfl) 87 (.tmp 9) rfl y rfl (fun w' hw' => by obtain ⟨p, rfl⟩ := hw'; exact HY5.out.later (below_regrown _ _ _)) Tryd.underlying87 rfl HUZ.out.1 ?_))
      refine wpQuiet_nil ?_
      rintro _ ⟨qq, rfl⟩
      have hbq := below_regrown w7 qq.d qq.os
      have HB8 := Lib.hid (HBB.out.trans (hbq.mono HBB.out.size))
      clear hbq cS rS hy0
      generalize grow (redrawn w7 qq.d) qq.os = w8 at *
      have HY8 := Lib.hid (HUT.out.later HB8.out)
      have HAE : Hid (Env P x (5 ^ M - 5 ^ (k + 1)) w8 ∧ Row w8 b1 27 PA ∧ Row w8 (b1 + 1) 44 CA ∧ OwnU w8 y0 u6 Pl ∧ Below w.heap.size w w8) := Lib.hid ⟨HAG.out.env.later HOKP.out HB8.out, HAG.out.pos.later HB8.out, HAG.out.clm.later HB8.out, HAG.out.own.below HB8.out, HBW.out.trans (HB8.out.mono HBW.out.size)⟩
      have HPW : Hid (5 ^ M - 5 ^ (k + 1) + 4 * 5 ^ k = 5 ^ M - 5 ^ k ∧ 5 ^ M - 5 ^ (k + 1) + 5 ^ (k + 1) < maxLen ∧ 5 ^ M - 5 ^ (k + 1) ≤ 5 ^ M - 5 ^ k) := Lib.hid (by
        have hkM := HAG.out.kM
        have h1 := Nat.pow_le_pow_right (n := 5) (by decide) hkM.1
        have h2 := Nat.pow_le_pow_right (n := 5) (by decide) hkM.2
        have h3 : 5 ^ 16 < maxLen := by unfold maxLen; decide
        rw [Nat.pow_succ] at h1 ⊢
        have h4 := Nat.pow_pos (n := k) (show 0 < 5 by decide)
        omega)
      clear HBB HY5 HCC hut0 HB8
      have hy8 := HY8.out
      by_cases hrs : rr = sd
      · have hsI : ((rr : Int) == (sd : Int)) = true := by rw [beq_iff_eq, hrs]
        have HAC : Hid (agC sd tr ln k u = lineC ln u) := Lib.hid (if_pos (by rw [HRR.out, hrs]))
        have HLC := Lib.hid (lineC_mem HG.out.ok HCZ.out ln)
        have HBY := Lib.hid (fun W hW hR => cl_byLine1 u HG.out.ok HCZ.out ln H52.out bl la lcap W hW hR)
        have hz0 := (lineM_one HG.out.ok HCZ.out ln).1
        have hzw := lineM_w64 ln u
        have hcd : Lib.ctz 64 (lineM ln u) = lineC ln u := rfl
        have HFI := Lib.hid (fun (W' : World) (hT : Tab W') => cl_first (lineM ln u) hzw hz0 W' hT)
        rw [hcd] at HFI
        obtain ⟨z, hzz⟩ : ∃ z, lineM ln u = z := ⟨_, rfl⟩
        obtain ⟨c, hcc⟩ : ∃ c, lineC ln u = c := ⟨_, rfl⟩
        rw [hzz] at HBY HFI
        rw [hcc] at HFI HAC HLC
        rw [HUA.out] at HBY
        clear hzz hcc hcd hz0 hzw hrs hm1 hm2 hm3
        go_upto_region 10 with fail
        go_wp2_with (refine wpList_load_row rfl 87 (.tmp 9) rfl y rfl 87 UA (0, 0) _ hy8 Tryd.underlying87 rfl HUZ.out.1 ?_)
        have hcr := HCR.out _ HAE.out.1.cr
        refine (HBY.out w8 hcr.2.2.1 hcr.2.1).mono ?_
        rintro e wa ⟨rfl, hba⟩
        have HEa := Lib.hid ((HAE.out.1.later HOKP.out hba).mono HPW.out.2.2)
        have HYa := Lib.hid (HY8.out.later hba)
        have HPa := Lib.hid (HAE.out.2.1.later hba)
        have HCa := Lib.hid (HAE.out.2.2.1.later hba)
        have HOa := Lib.hid (HAE.out.2.2.2.1.below hba)
        have HBa := Lib.hid (HAE.out.2.2.2.2.trans (hba.mono HAE.out.2.2.2.2.size))
        clear hba hcr hy8 HAE HY8 hsI
        go_wp2_with fail
        refine (HFI.out wa HEa.out.tab).mono ?_
        rintro e wx ⟨rfl, rfl⟩
        clear HFI HBY
        have hc52 : c < 52 := (legal_bit (cards_pk HG.out.ok.pk HLC.out)).1
        have HC52 := Lib.hid hc52
        have hxb := HAG.out.xb
        have HXB := Lib.hid hxb
        have hsz := HEa.out.mlt
        have HYL := Lib.hid (show y < wa.heap.size ∧ y0 ≤ y ∧ y0 ≤ wa.heap.size from ⟨HYa.out.lt, HAG.out.yb, by have := HYa.out.lt; have := HAG.out.yb; omega⟩)
        clear hxb hsz
        go_upto_region 12 with fail
        go_upto_region 13 with (at_builtin; refine appU rfl (.tmp 46) (.tmp 48) rfl y0 u6 Pl [c] rfl (HOa.out.alloc _) _ _ _ rfl (byt_new1 wa c (by have := HC52.out; omega)) (by have := HAG.out.len; omega) (by rw [World.size_alloc]; have := HYL.out; omega) ?_; intro v2 w10 hown10 hb10 hg10 hnb10)
        try dsimp only [Act.put]
        have hgk : ∀ b T cs, Row wa b T cs → T ≠ 5 → Row w10 b T cs := fun b T cs hr hne => by
          have h1 := hr.alloc (.cells #[.int .u8 (c : Int)] 5)
          exact h1.same (hg10.block b h1.lt (own_apart (HOa.out.alloc _) h1 hne))
        have ha := (Below.refl wa.heap.size wa).alloc (Nat.le_refl _) (.cells #[.int .u8 (c : Int)] 5)
        have HP10 := Lib.hid (hgk _ _ _ HPa.out (by decide))
        have HC10 := Lib.hid (hgk _ _ _ HCa.out (by decide))
        have HU10 := Lib.hid (hgk _ _ _ HYa.out (by decide))
        have hby : Below y0 wa w10 := (ha.mono HYL.out.2.2).trans hb10
        have HE10 := Lib.hid (HEa.out.below HOKP.out hby HXB.out.2)
        have HO10 := Lib.hid hown10
        have HB10 := Lib.hid (HBa.out.trans (hby.mono (by have h1 := HXB.out; have h2 := HB1.out; omega)))
        have c4 := (HP10.out.cell 4).trans HP4.out
        have c0 := (HC10.out.cell 0).trans HC0.out.1
        have HPU := Lib.hid (fun W => cl_put u HG.out.ok tr sd c HC52.out HTR.out W)
        obtain ⟨q2, hg2, hq2, hk2⟩ := HG.out.put tr HLC.out HKU.out
        have HSUM : Hid ((Pl ++ [c]) ++ agL sd tr ln k (u.put tr c).1 = L) := Lib.hid (by
          rw [← HAG.out.sum, List.append_assoc]
          show _ = Pl ++ (agC sd tr ln k u :: agL sd tr ln k (u.put tr (agC sd tr ln k u)).1)
          rw [HAC.out]; rfl)
        have HNX := Lib.hid (show ∃ q, TbG q (u.put tr c).1 ∧ k + (u.put tr c).1.cs.length = 4 * q ∧ q ≤ 4 from ⟨q2, hg2, hk2, by have := HQU.out; omega⟩)
        obtain ⟨won, hwon⟩ : ∃ x, wonS sd tr u c = x := ⟨_, rfl⟩
        obtain ⟨u2, hu2⟩ : ∃ x, (u.put tr c).1 = x := ⟨_, rfl⟩
        rw [hwon, hu2] at HPU
        rw [hu2] at HNX HSUM
        obtain ⟨VA, hVA⟩ : ∃ A, tbA u2 = A := ⟨_, rfl⟩
        have HVA := Lib.hid hVA
        have HVZ : Hid ((Tryd.prog.info? 87).map (·.size) = some VA.size ∧ VA.size = 10 ∧ VA.all (·.oneCell') = true) := Lib.hid (by rw [← hVA]; exact ⟨size_ct, rfl, tbA_one _⟩)
        rw [hVA, HUA.out] at HPU
        clear hgk ha hown10 hb10 hg10 hnb10 hwon hu2 hVA hby hg2 hq2 hk2 HPa HCa HYa HEa HOa HBa
        go_wp2_with (refine wpList_load_row rfl 87 (.tmp 9) rfl y rfl 87 UA (0, 0) _ HU10.out Tryd.underlying87 rfl HUZ.out.1 ?_)
        refine (HPU.out _).mono ?_
        rintro e w11 ⟨rfl, hb11⟩
        have HU11 := Lib.hid (HU10.out.later hb11)
        have HP11 := Lib.hid (HP10.out.later hb11)
        have HC11 := Lib.hid (HC10.out.later hb11)
        have HE11 := Lib.hid (HE10.out.later HOKP.out hb11)
        have HO11 := Lib.hid (HO10.out.below hb11)
        have HB11 := Lib.hid (HB10.out.trans (hb11.mono HB10.out.size))
        clear hb11 c4 c0 HP10 HC10 HE10 HO10 HB10 HU10
        have hso : ∀ b, b ≠ y → (w11.setRow y VA).heap[b]? = w11.heap[b]? := fun b hb => setRow_other _ _ _ _ hb
        have HU12 := Lib.hid (show Row (w11.setRow y VA) y 87 VA from setRow_heap _ _ _ _ _ _ HU11.out)
        have hb12 : Below y0 w11 (w11.setRow y VA) := below_setRow (Below.refl y0 w11) HYL.out.2.1 VA
        have HP12 := Lib.hid (HP11.out.below (n := y0) (by have := HXB.out; omega) hb12)
        have HC12 := Lib.hid (HC11.out.below (n := y0) (by have := HXB.out; omega) hb12)
        have HE12 := Lib.hid (HE11.out.below HOKP.out hb12 HXB.out.2)
        have HO12 := Lib.hid (HO11.out.kept (w' := w11.setRow y VA) (row := some y) ⟨rfl, rfl, rfl, by simp [World.setRow], fun b _ hb => hso b fun e => hb (by rw [e])⟩ (.inl (own_apart HO11.out HU11.out (by decide))))
        have HB12 := Lib.hid (HB11.out.trans (hb12.mono (by have h1 := HXB.out; have h2 := HB1.out; omega)))
        clear hso hb12
        go_upto_region 14 with (refine wpList_store_row rfl 87 (.tmp 9) (.tmp 58) rfl y VA rfl rfl 87 _ HU11.out HVZ.out.1 (by rw [HVZ.out.2.1, HUZ.out.2.1]) HVZ.out.2.2 ?_)
        try dsimp only [Act.put]
        generalize w11.setRow y VA = w12 at *
        have HN13 := Lib.hid (Row.new w12 87 zeroT)
        have ha := below_setRow ((Below.refl w12.heap.size w12).alloc (Nat.le_refl _) (.cells zeroT 87)) (Nat.le_refl _) VA
        have HU13 := Lib.hid (show Row ((w12.alloc (.cells zeroT 87)).setRow w12.heap.size VA) w12.heap.size 87 VA from setRow_heap _ _ _ _ _ _ HN13.out)
        have HF13 := Lib.hid (And.intro (HP12.out.later ha) (And.intro (HC12.out.later ha) (And.intro (HE12.out.later HOKP.out ha) (And.intro (HO12.out.below ha) (HB12.out.trans (ha.mono HB12.out.size))))))
        have HL13 := Lib.hid (show y0 ≤ w12.heap.size from by have h1 := HU12.out.lt; have h2 := HYL.out; omega)
        have HLN : Hid ((Pl ++ [c]).length ≤ 16) := Lib.hid (by
          have h1 := congrArg List.length HSUM.out
          rw [List.length_append, agL_len, ← HLL.out, agL_len] at h1
          have := HAG.out.kM
          omega)
        clear ha
        go_wp2_with (first
          | refine wpList_load_row rfl 87 (.tmp 9) rfl y rfl 87 VA (0, 0) _ HU12.out Tryd.underlying87 rfl HVZ.out.1 ?_
          | refine wpList_store_row rfl 87 (.tmp 9) (.tmp 60) rfl w12.heap.size VA rfl rfl 87 _ HN13.out HVZ.out.1 (by rw [HVZ.out.2.1]; rfl) HVZ.out.2.2 ?_)
        go_roundg k
        case measure => omega
        case rel =>
          have hf := HF13.out
          exact ⟨w12.heap.size, u2, Pl ++ [c], rfl, ⟨hf.1, hf.2.1, by rw [HVA.out]; exact HU13.out, HNX.out, hf.2.2.1, hf.2.2.2.1, HSUM.out, ⟨by have := HAG.out.kM; omega, HAG.out.kM.2⟩, HL13.out, HXB.out, HLN.out⟩, hf.2.2.2.2⟩
      · have hsI : ((rr : Int) == (sd : Int)) = false := by rw [beq_eq_false_iff_ne]; omega
        have HAC : Hid (agC sd tr ln k u = (wsF (worthM sd tr false ln k u) u.cards).1) := Lib.hid (if_neg (by rw [HRR.out]; exact hrs))
        have HLC : Hid (u.legal (wsF (worthM sd tr false ln k u) u.cards).1 = true) := Lib.hid (by
          have h1 : u.cards ≠ [] := by
            obtain ⟨hk, hcons⟩ := bitsList_cons (canM u) HCZ.out (canM_w64 HG.out.ok)
            rw [← canM_list HG.out.ok, hcons]; simp
          refine (mem_cards.1 (wsF_mem h1 fun c hc => ?_)).2
          have hl := (mem_cards.1 hc).2
          obtain ⟨q2, h2, h3, h4⟩ := HG.out.put tr hl HKU.out
          have h5 := Prm.mn_le (P := P) (m := k) h2 h4
          rw [HMN.out] at h5
          have h6 := (wonS_le sd tr u c).1
          have h7 := HQU.out
          show wonS sd tr u c + mn sd tr false ln k (u.put tr c).1 < 7
          omega)
        have HWS := Lib.hid (fun W (hE : Env P x (5 ^ M - 5 ^ (k + 1)) W) => cl_worst HOKP.out (5 ^ M - 5 ^ (k + 1)) u qu W HG.out HKU.out HQU.out hE HPW.out.2.1)
        rw [HWO.out, HPE.out.1, HPE.out.2, HPW.out.1, HUA.out] at HWS
        obtain ⟨c, hcc⟩ : ∃ c, (wsF (worthM sd tr false ln k u) u.cards).1 = c := ⟨_, rfl⟩
        rw [hcc] at HWS HAC HLC
        unfold folV at HWS
        clear hcc hrs hm1 hm2 hm3
        have c4 := (HAE.out.2.1.cell 4).trans HP4.out
        have c0 := (HAE.out.2.2.1.cell 0).trans HC0.out.1
        go_upto_region 11 with fail
        go_wp2_with (refine wpList_load_row rfl 87 (.tmp 9) rfl y rfl 87 UA (0, 0) _ hy8 Tryd.underlying87 rfl HUZ.out.1 ?_)
        refine (HWS.out w8 HAE.out.1).mono ?_
        rintro e wa ⟨rfl, hEa, hba⟩
        have hxb := HAG.out.xb
        have hmp : x + 4 < w8.heap.size := by have := HAE.out.1.mlt; omega
        have HEa := Lib.hid hEa
        have HYa := Lib.hid (hba.row HY8.out HY8.out.lt (by have := HAG.out.yb; omega))
        have HPa := Lib.hid (hba.row HAE.out.2.1 HAE.out.2.1.lt (by omega))
        have HCa := Lib.hid (hba.row HAE.out.2.2.1 HAE.out.2.2.1.lt (by omega))
        have HOa := Lib.hid (HAE.out.2.2.2.1.kept (hba.grown (Nat.le_refl _)) (.inl (own_not HAE.out.2.2.2.1 (fun cur e => by
          obtain ⟨D, ⟨es, clock, hb, -⟩, -⟩ := HAE.out.1.m
          rw [hb] at e
          cases e))))
        have HBa : Hid (Below w.heap.size w wa) := Lib.hid (hba.below HAE.out.2.2.2.2 HAE.out.2.2.2.2.size (by have := HB1.out; omega))
        clear hba hEa hy8 HAE HY8 hsI hxb hmp c4 c0 HWS
        have hc52 : c < 52 := (legal_bit (cards_pk HG.out.ok.pk HLC.out)).1
        have HC52 := Lib.hid hc52
        have hxb := HAG.out.xb
        have HXB := Lib.hid hxb
        have hsz := HEa.out.mlt
        have HYL := Lib.hid (show y < wa.heap.size ∧ y0 ≤ y ∧ y0 ≤ wa.heap.size from ⟨HYa.out.lt, HAG.out.yb, by have := HYa.out.lt; have := HAG.out.yb; omega⟩)
        clear hxb hsz
        go_upto_region 12 with fail
        go_upto_region 13 with (at_builtin; refine appU rfl (.tmp 46) (.tmp 48) rfl y0 u6 Pl [c] rfl (HOa.out.alloc _) _ _ _ rfl (byt_new1 wa c (by have := HC52.out; omega)) (by have := HAG.out.len; omega) (by rw [World.size_alloc]; have := HYL.out; omega) ?_; intro v2 w10 hown10 hb10 hg10 hnb10)
        try dsimp only [Act.put]
        have hgk : ∀ b T cs, Row wa b T cs → T ≠ 5 → Row w10 b T cs := fun b T cs hr hne => by
          have h1 := hr.alloc (.cells #[.int .u8 (c : Int)] 5)
          exact h1.same (hg10.block b h1.lt (own_apart (HOa.out.alloc _) h1 hne))
        have ha := (Below.refl wa.heap.size wa).alloc (Nat.le_refl _) (.cells #[.int .u8 (c : Int)] 5)
        have HP10 := Lib.hid (hgk _ _ _ HPa.out (by decide))
        have HC10 := Lib.hid (hgk _ _ _ HCa.out (by decide))
        have HU10 := Lib.hid (hgk _ _ _ HYa.out (by decide))
        have hby : Below y0 wa w10 := (ha.mono HYL.out.2.2).trans hb10
        have HE10 := Lib.hid (HEa.out.below HOKP.out hby HXB.out.2)
        have HO10 := Lib.hid hown10
        have HB10 := Lib.hid (HBa.out.trans (hby.mono (by have h1 := HXB.out; have h2 := HB1.out; omega)))
        have c4 := (HP10.out.cell 4).trans HP4.out
        have c0 := (HC10.out.cell 0).trans HC0.out.1
        have HPU := Lib.hid (fun W => cl_put u HG.out.ok tr sd c HC52.out HTR.out W)
        obtain ⟨q2, hg2, hq2, hk2⟩ := HG.out.put tr HLC.out HKU.out
        have HSUM : Hid ((Pl ++ [c]) ++ agL sd tr ln k (u.put tr c).1 = L) := Lib.hid (by
          rw [← HAG.out.sum, List.append_assoc]
          show _ = Pl ++ (agC sd tr ln k u :: agL sd tr ln k (u.put tr (agC sd tr ln k u)).1)
          rw [HAC.out]; rfl)
        have HNX := Lib.hid (show ∃ q, TbG q (u.put tr c).1 ∧ k + (u.put tr c).1.cs.length = 4 * q ∧ q ≤ 4 from ⟨q2, hg2, hk2, by have := HQU.out; omega⟩)
        obtain ⟨won, hwon⟩ : ∃ x, wonS sd tr u c = x := ⟨_, rfl⟩
        obtain ⟨u2, hu2⟩ : ∃ x, (u.put tr c).1 = x := ⟨_, rfl⟩
        rw [hwon, hu2] at HPU
        rw [hu2] at HNX HSUM
        obtain ⟨VA, hVA⟩ : ∃ A, tbA u2 = A := ⟨_, rfl⟩
        have HVA := Lib.hid hVA
        have HVZ : Hid ((Tryd.prog.info? 87).map (·.size) = some VA.size ∧ VA.size = 10 ∧ VA.all (·.oneCell') = true) := Lib.hid (by rw [← hVA]; exact ⟨size_ct, rfl, tbA_one _⟩)
        rw [hVA, HUA.out] at HPU
        clear hgk ha hown10 hb10 hg10 hnb10 hwon hu2 hVA hby hg2 hq2 hk2 HPa HCa HYa HEa HOa HBa
        go_wp2_with (refine wpList_load_row rfl 87 (.tmp 9) rfl y rfl 87 UA (0, 0) _ HU10.out Tryd.underlying87 rfl HUZ.out.1 ?_)
        refine (HPU.out _).mono ?_
        rintro e w11 ⟨rfl, hb11⟩
        have HU11 := Lib.hid (HU10.out.later hb11)
        have HP11 := Lib.hid (HP10.out.later hb11)
        have HC11 := Lib.hid (HC10.out.later hb11)
        have HE11 := Lib.hid (HE10.out.later HOKP.out hb11)
        have HO11 := Lib.hid (HO10.out.below hb11)
        have HB11 := Lib.hid (HB10.out.trans (hb11.mono HB10.out.size))
        clear hb11 c4 c0 HP10 HC10 HE10 HO10 HB10 HU10
        have hso : ∀ b, b ≠ y → (w11.setRow y VA).heap[b]? = w11.heap[b]? := fun b hb => setRow_other _ _ _ _ hb
        have HU12 := Lib.hid (show Row (w11.setRow y VA) y 87 VA from setRow_heap _ _ _ _ _ _ HU11.out)
        have hb12 : Below y0 w11 (w11.setRow y VA) := below_setRow (Below.refl y0 w11) HYL.out.2.1 VA
        have HP12 := Lib.hid (HP11.out.below (n := y0) (by have := HXB.out; omega) hb12)
        have HC12 := Lib.hid (HC11.out.below (n := y0) (by have := HXB.out; omega) hb12)
        have HE12 := Lib.hid (HE11.out.below HOKP.out hb12 HXB.out.2)
        have HO12 := Lib.hid (HO11.out.kept (w' := w11.setRow y VA) (row := some y) ⟨rfl, rfl, rfl, by simp [World.setRow], fun b _ hb => hso b fun e => hb (by rw [e])⟩ (.inl (own_apart HO11.out HU11.out (by decide))))
        have HB12 := Lib.hid (HB11.out.trans (hb12.mono (by have h1 := HXB.out; have h2 := HB1.out; omega)))
        clear hso hb12
        go_upto_region 14 with (refine wpList_store_row rfl 87 (.tmp 9) (.tmp 58) rfl y VA rfl rfl 87 _ HU11.out HVZ.out.1 (by rw [HVZ.out.2.1, HUZ.out.2.1]) HVZ.out.2.2 ?_)
        try dsimp only [Act.put]
        generalize w11.setRow y VA = w12 at *
        have HN13 := Lib.hid (Row.new w12 87 zeroT)
        have ha := below_setRow ((Below.refl w12.heap.size w12).alloc (Nat.le_refl _) (.cells zeroT 87)) (Nat.le_refl _) VA
        have HU13 := Lib.hid (show Row ((w12.alloc (.cells zeroT 87)).setRow w12.heap.size VA) w12.heap.size 87 VA from setRow_heap _ _ _ _ _ _ HN13.out)
        have HF13 := Lib.hid (And.intro (HP12.out.later ha) (And.intro (HC12.out.later ha) (And.intro (HE12.out.later HOKP.out ha) (And.intro (HO12.out.below ha) (HB12.out.trans (ha.mono HB12.out.size))))))
        have HL13 := Lib.hid (show y0 ≤ w12.heap.size from by have h1 := HU12.out.lt; have h2 := HYL.out; omega)
        have HLN : Hid ((Pl ++ [c]).length ≤ 16) := Lib.hid (by
          have h1 := congrArg List.length HSUM.out
          rw [List.length_append, agL_len, ← HLL.out, agL_len] at h1
          have := HAG.out.kM
          omega)
        clear ha
        go_wp2_with (first
          | refine wpList_load_row rfl 87 (.tmp 9) rfl y rfl 87 VA (0, 0) _ HU12.out Tryd.underlying87 rfl HVZ.out.1 ?_
          | refine wpList_store_row rfl 87 (.tmp 9) (.tmp 60) rfl w12.heap.size VA rfl rfl 87 _ HN13.out HVZ.out.1 (by rw [HVZ.out.2.1]; rfl) HVZ.out.2.2 ?_)
        go_roundg k
        case measure => omega
        case rel =>
          have hf := HF13.out
          exact ⟨w12.heap.size, u2, Pl ++ [c], rfl, ⟨hf.1, hf.2.1, by rw [HVA.out]; exact HU13.out, HNX.out, hf.2.2.1, hf.2.2.2.1, HSUM.out, ⟨by have := HAG.out.kM; omega, HAG.out.kM.2⟩, HL13.out, HXB.out, HLN.out⟩, hf.2.2.2.2⟩
end Go.Proofs.YtnbillhodbcfbaaDoor
