/- The reference's Against, of any position and claim. -/
import Derived.Test.YtnbillhodbcfbaaDoorCrG
import Derived.Test.YtnbillhodbcfbaaDoorMCls
namespace Go.Proofs.YtnbillhodbcfbaaDoor
open Go.RowKit Go.Shelf Go.Sort Go.Maps Go.WideMaps

theorem list14 {l : List Value} (h : l.length = 14) : ∃ y0 y1 y2 y3 y4 y5 y6 y7 y8 y9 y10 y11 y12 y13, l = [y0, y1, y2, y3, y4, y5, y6, y7, y8, y9, y10, y11, y12, y13] := by
  match l, h with
  | [y0, y1, y2, y3, y4, y5, y6, y7, y8, y9, y10, y11, y12, y13], _ => exact ⟨y0, y1, y2, y3, y4, y5, y6, y7, y8, y9, y10, y11, y12, y13, rfl⟩
/-- the first card of least worth -/
theorem wsF_first {g : Nat → Nat} {l : List Nat} {i c m : Nat} (hc : l[i]? = some c) (hno : ∀ j x, j < i → l[j]? = some x → g x ≠ m) (hm : g c = m) (hle : ∀ x ∈ l, m ≤ g x) (h7 : m < 7) : (wsF g l).1 = c := by
  have hi := (List.getElem?_eq_some_iff.1 hc).1
  have key : ∀ r, (∀ x ∈ r, m ≤ g x) → wsF g (l.take (i + 1) ++ r) = (c, m) := fun r => by
    refine snoc_ind (P := fun r => (∀ x ∈ r, m ≤ g x) → wsF g (l.take (i + 1) ++ r) = (c, m)) (fun _ => ?_) (fun r x ih h => ?_) r
    · rw [List.append_nil, List.take_add_one, hc]
      show wsF g (l.take i ++ [c]) = (c, m)
      rw [wsF_snoc, hm]
      have hlt : m < (wsF g (l.take i)).2 := by
        rcases wsF_val (g := g) (l := l.take i) with ⟨h1, _⟩ | ⟨h1, h2, _⟩
        · rw [h1]; exact h7
        · obtain ⟨j, hj, e⟩ := List.mem_iff_getElem.1 h1
          have hj2 : j < i := by rw [List.length_take] at hj; omega
          have e2 : l[j]? = some (wsF g (l.take i)).1 := by rw [← e, List.getElem_take, List.getElem?_eq_getElem]
          have h3 := hno j _ hj2 e2
          have h4 := hle _ (List.mem_of_getElem? e2)
          rw [h2]; omega
      rw [if_pos hlt]
    · rw [← List.append_assoc, wsF_snoc, ih fun y hy => h y (List.mem_append_left _ hy)]
      have := h x (List.mem_append_right _ (List.mem_singleton.2 rfl))
      rw [if_neg (by dsimp only; omega)]
  have := key (l.drop (i + 1)) fun x hx => hle x (List.mem_of_mem_drop hx)
  rw [List.take_append_drop] at this
  rw [this]
/-- between the rounds of the reference's Against: k cards are to come -/
structure AGR (tr sd : Nat) (ln L : List Nat) (b1 b3 base : Nat) (CA : Array Value) (k : Nat) (u : Tb) (q : Nat) (ua : Option Addr) (uc : Nat) (out : Value) (Pl : List Nat) (w W : World) : Prop where
  row : Row W b1 62 (posA u.h tr u.ld (.slice ua u.cs.length uc))
  clm : Row W b3 64 CA
  byt : Byt W ua u.cs.length u.cs
  own : OwnU W base out Pl
  pos : PosT q u
  kq : k + u.cs.length = 4 * q
  q4 : q ≤ 4
  sum : Pl ++ agL sd tr ln k u = L
  lo : base ≤ W.heap.size
  below : Below w.heap.size w W
theorem AGR.step {tr sd : Nat} {ln L : List Nat} {b1 b3 base : Nat} {CA : Array Value} {k : Nat} {u : Tb} {q : Nat} {ua : Option Addr} {uc : Nat} {out : Value} {Pl : List Nat} {w W W' : World} (h : AGR tr sd ln L b1 b3 base CA k u q ua uc out Pl w W) (hb : Below W.heap.size W W') : AGR tr sd ln L b1 b3 base CA k u q ua uc out Pl w W' :=
  ⟨h.row.later hb, h.clm.later hb, h.byt.below (Nat.le_refl _) hb, Owns.below h.own hb, h.pos, h.kq, h.q4, h.sum, Nat.le_trans h.lo hb.size, h.below.trans (hb.mono h.below.size)⟩
def againstV (h : Nat → Nat) (tr ld : Nat) (ps : List Nat) (sd : Nat) (tk : Int) (ln : List Nat) : List Nat × Nat := if (rightB h tr ld ps && claimB sd tk ln (pop (h ((ld + ps.length) % 4)))) = false then ([], 2) else (agL sd tr ln (4 * pop (h ((ld + ps.length) % 4)) - ps.length) ⟨h, ld, ps⟩, 0)
def AgvOk (L : List Nat × Nat) (w : World) (e : Ending) (w' : World) : Prop := ∃ v, e = .returned (.tuple #[v, .int .i64 (L.2 : Int)]) ∧ OwnU w' w.heap.size v L.1 ∧ Below w.heap.size w w'
theorem cl_Against_any (h : Nat → Nat) (tr ld : Nat) (ps : List Nat) (a : Option Addr) (cap sd : Nat) (tk : Int) (ln : List Nat) (la : Option Addr) (lcap : Nat) (hw : ∀ s, W64 (h s)) (htr : tr < 256) (hld : ld < 256) (hsd : sd < 256) (w : World) (hz : Byt w a ps.length ps) (hl : Byt w la ln.length ln) (hln : ∀ b off, la = some ⟨b, off, none⟩ → b < w.heap.size) (hT : Tab w) (hq4 : rightB h tr ld ps = true → pop (h ((ld + ps.length) % 4)) ≤ 4) :
    Calls Tryd.prog 20 #[.agg (posA h tr ld (.slice a ps.length cap)), .agg (cmA sd tk (.slice la ln.length lcap))] w (AgvOk (againstV h tr ld ps sd tk ln) w) := by
  unfold againstV
  by_cases hok : (rightB h tr ld ps && claimB sd tk ln (pop (h ((ld + ps.length) % 4)))) = false
  · rw [if_pos hok]
    refine (cl_Against_no h tr ld ps a cap sd tk ln la lcap hw htr hld hsd w hz hl hok).mono ?_
    rintro e w' ⟨rfl, hb⟩
    exact ⟨_, rfl, Owns.nil encU_len _ _, hb⟩
  · rw [if_neg hok]
    have hok2 : (rightB h tr ld ps && claimB sd tk ln (pop (h ((ld + ps.length) % 4)))) = true := by simpa using hok
    rw [Bool.and_eq_true] at hok2
    obtain ⟨hr, hc⟩ := hok2
    obtain ⟨hs2, -, -, -, h52⟩ := claim_parts hc
    exact cl_Against_ok h tr ld ps a cap sd tk ln la lcap hw htr hld hs2 w hz hl hln hT _ rfl (hq4 hr) hr hc h52
set_option maxHeartbeats 4000000 in
set_option maxRecDepth 10000 in
theorem cr_Against (h : Nat → Nat) (tr ld : Nat) (ps : List Nat) (a : Option Addr) (cap sd : Nat) (tk : Int) (ln : List Nat) (la : Option Addr) (lcap : Nat) (hw : ∀ s, W64 (h s)) (htr : tr < 256) (hld : ld < 256) (hsd : sd < 256) (w : World) (hz : Byt w a ps.length ps) (hl : Byt w la ln.length ln) (hq4 : rightB h tr ld ps = true → pop (h ((ld + ps.length) % 4)) ≤ 4) :
    Calls Tryd.prog 34 #[.agg (posA h tr ld (.slice a ps.length cap)), .agg (cmA sd tk (.slice la ln.length lcap))] w (AgvOk (againstV h tr ld ps sd tk ln) w) := by
  have HLY0 := Lib.hid hl
  have hb1 := (Below.refl w.heap.size w).alloc (Nat.le_refl _) (.cells (posA h tr ld (.slice a ps.length cap)) 62)
  have hb2 := hb1.alloc hb1.size (.cells (cmA sd tk (.slice la ln.length lcap)) 64)
  have HRI := Lib.hid (cr_Right h tr ld ps a cap sd tk ln la lcap hw htr hld hsd _ (hz.below (Nat.le_refl _) hb2) (hl.below (Nat.le_refl _) hb2))
  have HB := Lib.hid hb2
  have HR := Lib.hid ((Row.new w 62 (posA h tr ld (.slice a ps.length cap))).alloc (.cells (cmA sd tk (.slice la ln.length lcap)) 64))
  have HC := Lib.hid (Row.new (w.alloc (.cells (posA h tr ld (.slice a ps.length cap)) 62)) 64 (cmA sd tk (.slice la ln.length lcap)))
  have HY := Lib.hid (hz.below (Nat.le_refl _) hb2)
  have HLY := Lib.hid (hl.below (Nat.le_refl _) hb2)
  have hsz : (w.alloc (.cells (posA h tr ld (.slice a ps.length cap)) 62)).heap.size = w.heap.size + 1 := by simp
  rw [hsz] at HC
  clear hb1 hb2 hsz
  have HTR := Lib.hid htr
  obtain ⟨V, hV⟩ : ∃ V, againstV h tr ld ps sd tk ln = V := ⟨_, rfl⟩
  obtain ⟨ok, hok⟩ : ∃ z, (rightB h tr ld ps && claimB sd tk ln (pop (h ((ld + ps.length) % 4)))) = z := ⟨_, rfl⟩
  have HV2 : Hid (ok = false → V = ([], 2)) := Lib.hid fun h0 => by rw [← hV]; exact if_pos (hok.trans h0)
  have HV3 : Hid (ok = true → sd < 2 ∧ ∃ q L, PosT q ⟨h, ld, ps⟩ ∧ (4 * q - ps.length) + ps.length = 4 * q ∧ q ≤ 4 ∧ V = (L, 0) ∧ agL sd tr ln (4 * q - ps.length) ⟨h, ld, ps⟩ = L) := Lib.hid fun h0 => by
    have hok2 : (rightB h tr ld ps && claimB sd tk ln (pop (h ((ld + ps.length) % 4)))) = true := hok.trans h0
    have hne : ¬ (rightB h tr ld ps && claimB sd tk ln (pop (h ((ld + ps.length) % 4)))) = false := by rw [hok2]; decide
    rw [Bool.and_eq_true] at hok2
    obtain ⟨hr, hc⟩ := hok2
    obtain ⟨hp, -⟩ := PosT.of hw hr
    exact ⟨(claim_parts hc).1, _, _, hp, pos_len hp, hq4 hr, by rw [← hV]; exact if_neg hne, rfl⟩
  rw [hok] at HRI
  rw [hV]
  have HY00 := Lib.hid hz
  obtain ⟨PA, hPA⟩ : ∃ A, posA h tr ld (.slice a ps.length cap) = A := ⟨_, rfl⟩
  have HPZ : Hid (PA.size = 7) := Lib.hid (by rw [← hPA]; rfl)
  obtain ⟨nl, hnl⟩ : ∃ z, ln.length = z := ⟨_, rfl⟩
  rw [hPA] at HRI HB HR HC HY HLY ⊢
  rw [hnl] at HRI HB HR HC HY HLY ⊢
  obtain ⟨CA, hCA⟩ : ∃ A, cmA sd tk (.slice la nl lcap) = A := ⟨_, rfl⟩
  have HCZ : Hid (CA.size = 3) := Lib.hid (by rw [← hCA]; rfl)
  rw [hCA] at HRI HB HR HC HY HLY ⊢
  have HC0 : Hid (CA[0]? = some (.int .u8 (sd : Int)) ∧ CA[1]? = some (.int .i64 tk) ∧ CA[2]? = some (.slice la nl lcap)) := Lib.hid (by rw [← hCA]; exact ⟨rfl, rfl, rfl⟩)
  have hPA0 := hPA
  have hnl0 := hnl
  clear hPA hCA hz hl hV hnl hok hq4
  rw [hnl0] at HLY0
  have HPA := Lib.hid hPA0
  clear hPA0 hnl0 hw htr
  go_enter Tryd.func34, Tryd.ntmps34
  go_upto_region 1 with fail
  generalize (w.alloc (.cells PA 62)).alloc (.cells CA 64) = wa at *
  obtain ⟨b1, hb1⟩ : ∃ b, w.heap.size = b := ⟨_, rfl⟩
  have HB1 := Lib.hid hb1
  rw [hb1] at HR HC ⊢
  clear hb1
  obtain ⟨b3, hb3⟩ : ∃ b, b1 + 1 = b := ⟨_, rfl⟩
  have HB3E := Lib.hid hb3
  rw [hb3] at HC ⊢
  clear hb3
  go_wp2_with (first
    | refine wpList_load_row rfl 62 (.tmp 2) rfl b1 rfl 62 PA (0, 0) _ HR.out Tryd.underlying62 rfl (by rw [HPZ.out]; exact size_rpos) ?_
    | refine wpList_load_row rfl 64 (.tmp 3) rfl b3 rfl 64 CA (0, 0) _ HC.out Tryd.underlying64 rfl (by rw [HCZ.out]; exact size_rcl) ?_)
  refine HRI.out.mono ?_
  rintro e w2 ⟨rfl, hb2⟩
  have HR2 := Lib.hid (HR.out.later hb2)
  have HC2 := Lib.hid (HC.out.later hb2)
  have HY2 := Lib.hid (HY.out.below (Nat.le_refl _) hb2)
  have HLY2 := Lib.hid (HLY.out.below (Nat.le_refl _) hb2)
  have HB2 := Lib.hid (HB.out.trans (hb2.mono HB.out.size))
  clear hb2 HR HC HY HLY HB HRI
  cases ok
  · have HV0 := Lib.hid (HV2.out rfl)
    go_wp2_with fail
    go_ret2
    exact ⟨.slice none 0 0, by rw [HV0.out]; rfl, by rw [HV0.out]; exact Owns.nil encU_len _ _, HB2.out⟩
  · obtain ⟨hsd2, q0, L, hp0, hm0, hq0, hVE, hLE⟩ := HV3.out rfl
    have HSD := Lib.hid hsd2
    have HVE := Lib.hid hVE
    obtain ⟨M, hM⟩ : ∃ z, 4 * q0 - ps.length = z := ⟨_, rfl⟩
    rw [hM] at hm0 hLE
    have HL16 : Hid (L.length ≤ 16) := Lib.hid (by rw [← hLE, agL_len]; omega)
    have HB13 : Hid (b3 ≠ b1) := Lib.hid (by rw [← HB3E.out]; omega)
    obtain ⟨base, hbase⟩ : ∃ b, w2.heap.size = b := ⟨_, rfl⟩
    have HBASE : Hid (w.heap.size ≤ base) := Lib.hid (by rw [← hbase]; exact HB2.out.size)
    have HAG0 := Lib.hid (show AGR tr sd ln L b1 b3 base CA M ⟨h, ld, ps⟩ q0 a cap (.slice none 0 0) [] w w2 from ⟨by have h1 : Row w2 b1 62 PA := HR2.out; rw [← HPA.out] at h1; exact h1, HC2.out, HY2.out, Owns.nil encU_len _ _, hp0, hm0, hq0, hLE, Nat.le_of_eq hbase.symm, HB2.out⟩)
    clear hVE hM hm0 hLE hp0 hq0 hbase HR2 HC2 HY2 HLY2 HB2 HV2 HV3
    go_upto_region 4 with fail
    try dsimp only [Act.put]
    go_loopg [6] M (fun kk out wr => ∃ (u : Tb) (q : Nat) (ua : Option Addr) (uc : Nat) (Pl : List Nat), AGR tr sd ln L b1 b3 base CA kk u q ua uc out Pl w wr)
    case atStart => exact ⟨_, _, _, _, _, HAG0.out⟩
    case round =>
      clear HAG0
      obtain ⟨u, q, ua, uc, Pl, hA⟩ := hrel
      obtain ⟨ov0, hov0⟩ : ∃ z, u6 = z := ⟨_, rfl⟩
      rw [hov0] at hA ⊢
      have HA := Lib.hid hA
      clear hA hov0
      have HQU : Hid (cnt (u.h u.turn) 52 = q) := Lib.hid (by
        rw [cnt_in52 (fun c hc => HA.out.pos.ok.pk.1 _ u.turn_lt c hc)]
        exact HA.out.pos.evn.turn HA.out.pos.ok.pk.2)
      have HLE := Lib.hid (fun W => cr_Left u.h tr u.ld u.cs.length ua uc HA.out.pos.ok.w64 (by have := HA.out.pos.ok.ld; omega) (by have := HA.out.pos.ok.pk.2; omega) W)
      have htu : (u.ld + u.cs.length) % 4 = u.turn := rfl
      rw [htu, HQU.out] at HLE
      obtain ⟨PU, hPU⟩ : ∃ A, posA u.h tr u.ld (.slice ua u.cs.length uc) = A := ⟨_, rfl⟩
      have HPE := Lib.hid hPU
      have HPUZ : Hid (PU.size = 7) := Lib.hid (by rw [← hPU]; rfl)
      rw [hPU] at HLE
      have hrow0 := HA.out.row
      rw [hPU] at hrow0
      have HROW := Lib.hid hrow0
      have hq4 := HA.out.q4
      clear hPU htu hrow0
      go_wp2_with (refine wpList_load_row rfl 62 (.tmp 2) rfl b1 rfl 62 PU (0, 0) _ HROW.out Tryd.underlying62 rfl (by rw [HPUZ.out]; exact size_rpos) ?_)
      refine (HLE.out _).mono ?_
      rintro e w4 ⟨rfl, hb4⟩
      have HA4 := Lib.hid (HA.out.step hb4)
      have HROW4 := Lib.hid (HROW.out.later hb4)
      clear hb4 HA HROW HLE
      rcases Nat.eq_zero_or_pos gk with hk0 | hk0
      · obtain rfl : q = 0 := by have := HA4.out.kq; have := HA4.out.pos.ok.pk.2; omega
        have HSUM : Hid (Pl = L) := Lib.hid (by have := HA4.out.sum; rw [hk0] at this; simpa [agL] using this)
        clear hk0
        go_wp2_with fail
        go_ret2
        exact ⟨_, by rw [HVE.out]; rfl, by have h1 := HA4.out.own; rw [HSUM.out] at h1; rw [HVE.out]; exact h1.mono HBASE.out, HA4.out.below⟩
      · obtain ⟨k, rfl⟩ : ∃ k, gk = k + 1 := ⟨gk - 1, by omega⟩
        have hqp : 0 < q := by have := HA4.out.kq; omega
        have hqI : decide ((0 : Int) < (q : Int)) = true := by simp; omega
        have hqN : decide (0 < q) = true := by simp; omega
        have hcn := cards_some HA4.out.pos.ok HA4.out.pos.evn hqp
        have h0 : canM u ≠ 0 := HA4.out.pos.tg.can hqp
        have HLEG := Lib.hid (fun W hzW => cr_legal u.h tr u.ld u.cs ua uc HA4.out.pos.ok.w64 (by have := HA4.out.pos.ok.ld; omega) W hzW)
        have HTU := Lib.hid (fun W => dr_Turn u.h tr u.ld u.cs.length ua uc (by have := HA4.out.pos.ok.ld; omega) (by have := HA4.out.pos.ok.pk.2; omega) W)
        have HNX := Lib.hid (fun W hzW hlW => cr_next u.h tr u.ld u.cs ua uc ln la nl lcap HA4.out.pos.ok h0 W hzW hlW)
        have HLST := Lib.hid (fun W hzW hlW => cr_least sd tr false ln HTR.out HSD.out (k + 1) q u HA4.out.pos HA4.out.kq HA4.out.q4 ua uc la nl lcap W hzW hlW)
        have HAL4 := mn_le (sd := sd) (tr := tr) (line := ln) (fr := false) (k + 1) q u HA4.out.pos.ok.pk HA4.out.pos.evn HA4.out.kq
        obtain ⟨al, hal⟩ : ∃ x, mn sd tr false ln (k + 1) u = x := ⟨_, rfl⟩
        have HALE : Hid (al = bestL false ((mnL sd false ln u).map (worthM sd tr false ln k u))) := Lib.hid (by rw [← hal, mn_succ])
        rw [hal] at HLST HAL4
        have hal7 : al < 7 := by omega
        have HMN : Hid (mnL sd false ln u = if u.turn % 2 = sd then [lineC ln u] else u.cards) := Lib.hid (by
          unfold mnL
          by_cases hs : u.turn % 2 = sd
          · rw [if_pos ⟨hs, rfl⟩, if_pos hs, (lineM_one HA4.out.pos.ok h0 ln).2]
          · rw [if_neg (fun hh => hs hh.1), if_neg hs])
        have HMG := Lib.hid (fun c (hc : c ∈ mnL sd false ln u) => mnL_legal hc)
        have HMNE : Hid (mnL sd false ln u ≠ []) := Lib.hid (mnL_ne hcn)
        have HMLE : Hid (∀ x ∈ mnL sd false ln u, al ≤ worthM sd tr false ln k u x) := Lib.hid fun x hx => by rw [HALE.out]; exact minL_le (List.mem_map_of_mem hx)
        have HSOME0 : Hid (∃ x ∈ mnL sd false ln u, worthM sd tr false ln k u x = al) := Lib.hid (by
          rw [HALE.out]
          obtain ⟨x, hx, e⟩ := List.mem_map.1 (minL_mem (l := (mnL sd false ln u).map (worthM sd tr false ln k u)) (by simpa using HMNE.out))
          exact ⟨x, hx, e⟩)
        have HAGC : Hid (agC sd tr ln k u = if u.turn % 2 = sd then lineC ln u else (wsF (worthM sd tr false ln k u) u.cards).1) := Lib.hid rfl
        have hte : Tb.mk u.h u.ld u.cs = u := rfl
        have htu : (u.ld + u.cs.length) % 4 = u.turn := rfl
        rw [hte] at HLEG HNX
        rw [htu] at HTU
        rw [HPE.out] at HLEG HTU HNX HLST
        have ht4 := u.turn_lt
        obtain ⟨s, hs⟩ : ∃ z, u.turn = z := ⟨_, rfl⟩
        rw [hs] at HTU HMN HAGC ht4
        obtain ⟨rr, hrr⟩ : ∃ z, s % 2 = z := ⟨_, rfl⟩
        rw [hrr] at HMN HAGC
        have hm1 : (s : Int).tmod 2 = (rr : Int) := by rw [Int.tmod_eq_emod_of_nonneg (by omega)]; omega
        have hm2 : (s : Int) % 2 = (rr : Int) := by omega
        have HCN0 : Hid (u.cards.length ≠ 0) := Lib.hid fun e => hcn (List.length_eq_zero_iff.1 e)
        have HC52' : Hid (u.cards.length ≤ 52) := Lib.hid (by unfold Tb.cards; exact Nat.le_trans (List.length_filter_le _ _) (by rw [List.length_range]; exact Nat.le_refl _))
        clear hk0 hcn h0 HAL4 hal hte htu hs hrr
        go_upto_region 5 with fail
        go_wp2_with (refine wpList_load_row rfl 62 (.tmp 2) rfl b1 rfl 62 PU (0, 0) _ HROW4.out Tryd.underlying62 rfl (by rw [HPUZ.out]; exact size_rpos) ?_)
        refine (HLEG.out _ HA4.out.byt).mono ?_
        rintro e w5 ⟨v, rfl, hown, hb5⟩
        have HA5 := Lib.hid (HA4.out.step hb5)
        have HROW5 := Lib.hid (HROW4.out.later hb5)
        have HOW := Lib.hid hown
        rcases hown.form with ⟨-, h0⟩ | ⟨gv, vc, rfl, hg1, hg2, -⟩
        · exact absurd (by rw [h0]; rfl) HCN0.out
        clear hb5 hown hg1 HA4 HROW4 hqI hqN
        have e00 : w5.cell? ⟨b3, 0, none⟩ = some (.int .u8 (sd : Int)) := (HA5.out.clm.cell 0).trans HC0.out.1
        have r0 := fun dd os => cell_regrown e00 dd os
        clear e00
        go_upto_region 6 with fail
        obtain ⟨bb, hrb⟩ : ∃ b : Bool, ((rr : Int) == (sd : Int)) = b := ⟨_, rfl⟩
        refine wp_region_quiet_below (by kernel_rfl) (by kernel_rfl) ?_
        repeat (first
          | go_big_quiet_step (fail)
          | quiet_step (with_reducible exact Calls.regrown_of (HTU.out _))
          | (refine quiet_rowC (by rfl) 62 (.tmp 2) rfl b1 rfl (fun w' hw' => by obtain ⟨p, rfl⟩ := hw'; exact HROW5.out.later (below_regrown _ _ _)) Tryd.underlying62 rfl (by rw [HPUZ.out]; exact size_rpos) ?_)
          | quiet_step (fail))
        refine wpQuiet_nil ?_
        rintro _ ⟨qq, rfl⟩
        have hbq := below_regrown w5 qq.d qq.os
        have HA6 := Lib.hid (HA5.out.step hbq)
        have HROW6 := Lib.hid (HROW5.out.later hbq)
        have HOS := Lib.hid (Owns.below HOW.out hbq)
        have HGS : Hid (gv < (grow (redrawn w5 qq.d) qq.os).heap.size) := Lib.hid (Nat.lt_of_lt_of_le hg2 hbq.size)
        clear hbq r0 HA5 HROW5 HOW hg2
        generalize grow (redrawn w5 qq.d) qq.os = w6 at *
        go_upto_if 27 with fail
        go_cut [7] from 16 to 74 (fun v W => ∃ (gL vc : Nat), v = .slice (some ⟨gL, 0, none⟩) (mnL sd false ln u).length vc ∧ gL < W.heap.size ∧ (∀ (i x : Nat), (mnL sd false ln u)[i]? = some x → W.cell? ⟨gL, i, none⟩ = some (.int .i64 (x : Int))) ∧ AGR tr sd ln L b1 b3 base CA (k + 1) u q ua uc ov0 Pl w W)
        case first =>
          cases bb
          · have hrs : ¬ rr = sd := by intro h1; rw [h1] at hrb; simp at hrb
            have HML := Lib.hid (HMN.out.trans (if_neg hrs))
            have HFIN : Hid (∃ (gL vc' : Nat), Value.slice (some ⟨gv, 0, none⟩) u.cards.length vc = .slice (some ⟨gL, 0, none⟩) (mnL sd false ln u).length vc' ∧ gL < w6.heap.size ∧ (∀ (i x : Nat), (mnL sd false ln u)[i]? = some x → w6.cell? ⟨gL, i, none⟩ = some (.int .i64 (x : Int))) ∧ AGR tr sd ln L b1 b3 base CA (k + 1) u q ua uc ov0 Pl w w6) := Lib.hid ⟨gv, vc, by rw [HML.out], HGS.out, fun i x hx => by
              rw [HML.out] at hx
              have := HOS.out.cell i 0 (by decide) hx
              rw [Nat.mul_one, Nat.add_zero] at this
              exact this, HA6.out⟩
            clear hrs hrb HA6 HROW6 HOS HGS HML
            go_wp2_with fail
            go_meet
            exact HFIN.out
          · have hrs : rr = sd := by rw [beq_iff_eq] at hrb; omega
            have HML := Lib.hid (HMN.out.trans (if_pos hrs))
            obtain ⟨cl, hcl⟩ : ∃ z, lineC ln u = z := ⟨_, rfl⟩
            rw [hcl] at HNX HML
            clear hcl hrs hrb HOS HGS
            have e2 : w6.cell? ⟨b3, 2, none⟩ = some (.slice la nl lcap) := (HA6.out.clm.cell 2).trans HC0.out.2.2
            go_upto_region 7 with fail
            go_wp2_with (refine wpList_load_row rfl 62 (.tmp 2) rfl b1 rfl 62 PU (0, 0) _ HROW6.out Tryd.underlying62 rfl (by rw [HPUZ.out]; exact size_rpos) ?_)
            refine (HNX.out w6 HA6.out.byt (HLY0.out.below (Nat.le_refl _) HA6.out.below)).mono ?_
            rintro e w7 ⟨rfl, hb7⟩
            have HNR := Lib.hid (Row.new w7 3 #[.int .i64 (cl : Int)])
            have ha := (Below.refl w7.heap.size w7).alloc (Nat.le_refl _) (.cells #[.int .i64 (cl : Int)] 3)
            have hbb := hb7.trans (ha.mono hb7.size)
            have HAS := Lib.hid (HA6.out.step hbb)
            clear hb7 ha hbb HA6 HROW6 e2
            go_wp2_with fail
            go_meet
            refine ⟨w7.heap.size, 1, by rw [HML.out]; rfl, HNR.out.lt, fun i x hx => ?_, HAS.out⟩
            rw [HML.out] at hx
            obtain rfl : i = 0 := by
              have := (List.getElem?_eq_some_iff.1 hx).1
              simp at this; exact this
            rw [← Option.some.inj (show some cl = some x from hx)]
            exact HNR.out.cell 0
        clear HA6 HROW6 HOS HGS hrb hm1 hm2
        obtain ⟨gL, vc2, rfl, hgL, hLC, hAS⟩ := hcut
        have HAS := Lib.hid hAS
        have HGL := Lib.hid hgL
        clear hAS hgL
        generalize wc = wS at *
        obtain ⟨Lc, hL⟩ : ∃ L, mnL sd false ln u = L := ⟨_, rfl⟩
        have HFIRST : Hid (∀ i c, Lc[i]? = some c → (∀ j x, j < i → Lc[j]? = some x → worthM sd tr false ln k u x ≠ al) → worthM sd tr false ln k u c = al → agC sd tr ln k u = c) := Lib.hid fun i c hci hno he => by
          by_cases hrs : rr = sd
          · rw [HAGC.out, if_pos hrs]
            have h1 := List.mem_of_getElem? hci
            rw [← hL, HMN.out, if_pos hrs] at h1
            exact (List.mem_singleton.1 h1).symm
          · rw [HAGC.out, if_neg hrs]
            have e : u.cards = Lc := by rw [← hL, HMN.out, if_neg hrs]
            rw [e]
            exact wsF_first hci hno he (fun x hx => HMLE.out x (by rw [hL]; exact hx)) hal7
        have HLG : Hid (∀ c ∈ Lc, u.legal c = true) := Lib.hid fun c hc => HMG.out c (by rw [hL]; exact hc)
        have HL52 : Hid (Lc.length ≤ 52) := Lib.hid (by
          rw [← hL, HMN.out]
          split
          · exact (by decide : 1 ≤ 52)
          · exact HC52'.out)
        have HSOME : Hid (∃ x ∈ Lc, worthM sd tr false ln k u x = al) := Lib.hid (by rw [← hL]; exact HSOME0.out)
        rw [hL] at hLC ⊢
        have HLC := Lib.hid hLC
        obtain ⟨N, hN⟩ : ∃ N, Lc.length = N := ⟨_, rfl⟩
        have HLN : Hid (Lc.length = N) := Lib.hid hN
        have hn52 : N ≤ 52 := by rw [← hN]; exact HL52.out
        rw [hN]
        clear hL hN hLC
        have e0 : wS.cell? ⟨b3, 0, none⟩ = some (.int .u8 (sd : Int)) := (HAS.out.clm.cell 0).trans HC0.out.1
        have e2 : wS.cell? ⟨b3, 2, none⟩ = some (.slice la nl lcap) := (HAS.out.clm.cell 2).trans HC0.out.2.2
        have hrowS := HAS.out.row
        rw [HPE.out] at hrowS
        have HROWS := Lib.hid hrowS
        clear hrowS
        go_upto_region 8 with fail
        go_wp2_with (refine wpList_load_row rfl 62 (.tmp 2) rfl b1 rfl 62 PU (0, 0) _ HROWS.out Tryd.underlying62 rfl (by rw [HPUZ.out]; exact size_rpos) ?_)
        refine (HLST.out wS HAS.out.byt (HLY0.out.below (Nat.le_refl _) HAS.out.below)).mono ?_
        rintro e wT ⟨rfl, hbT⟩
        have HAT := Lib.hid (HAS.out.step hbT)
        have HGT : Hid (gL < wT.heap.size) := Lib.hid (Nat.lt_of_lt_of_le HGL.out hbT.size)
        have HLCT : Hid (∀ (i x : Nat), Lc[i]? = some x → wT.cell? ⟨gL, i, none⟩ = some (.int .i64 (x : Int))) := Lib.hid fun i x hx => (hbT.cell (p := ⟨gL, i, none⟩) HGL.out).trans (HLC.out i x hx)
        clear hbT e0 e2 HROWS HAS HGL HLC
        go_upto_region 10 with fail
        try dsimp only [Act.put]
        go_loopg [6, 9] N (fun g ov iv wr => ∃ (i : Nat), g = N - i ∧ i ≤ N ∧ iv = .int .i64 (i : Int) ∧ ov = ov0 ∧ (∀ j x, j < i → Lc[j]? = some x → worthM sd tr false ln k u x ≠ al) ∧ Below wT.heap.size wT wr)
        case atStart => exact ⟨0, rfl, by omega, rfl, rfl, fun j x hj => absurd hj (Nat.not_lt_zero _), Below.refl _ _⟩
        case round =>
          obtain ⟨i, rfl, hi, rfl, hov6, hno, hbs⟩ := hrel
          subst hov6
          have HNO := Lib.hid hno
          have HBS := Lib.hid hbs
          have HAW := Lib.hid (HAT.out.step hbs)
          clear hno hbs
          by_cases hlt : i < N
          · have hdk : decide (i < N) = true := by simp; omega
            have hin : (i : Int) < (N : Int) := by omega
            obtain ⟨c, hci⟩ : ∃ c, Lc[i]? = some c := ⟨_, List.getElem?_eq_getElem (by rw [HLN.out]; exact hlt)⟩
            have HCI := Lib.hid hci
            have hleg := HLG.out c (List.mem_of_getElem? hci)
            have ek : wr.cell? ⟨gL, i, none⟩ = some (.int .i64 (c : Int)) := (HBS.out.cell (p := ⟨gL, i, none⟩) HGT.out).trans (HLCT.out i c hci)
            have HGW : Hid (gL < wr.heap.size) := Lib.hid (Nat.lt_of_lt_of_le HGT.out HBS.out.size)
            have HC52 : Hid (c < 52) := Lib.hid (mem_cards.1 (cards_pk HAW.out.pos.ok.pk hleg)).1
            have HAFT := Lib.hid (fun W hzW => cr_after u HAW.out.pos.ok HAW.out.pos.uniq tr sd c HTR.out HSD.out hleg ua uc W hzW)
            obtain ⟨q2, hp2, hq2, -, hk2⟩ := HAW.out.pos.put tr (cards_pk HAW.out.pos.ok.pk hleg)
            have HP2 := Lib.hid (And.intro hp2 (And.intro (hk2 k HAW.out.kq) (Nat.le_trans hq2 HAW.out.q4)))
            have HREC := Lib.hid (fun a2 cap2 W hzW hlW => cr_least sd tr false ln HTR.out HSD.out k q2 (u.put tr c).1 hp2 (hk2 k HAW.out.kq) (Nat.le_trans hq2 HAW.out.q4) a2 cap2 la nl lcap W hzW hlW)
            have HOKU : Hid (TbOk (u.put tr c).1) := Lib.hid hp2.ok
            have HWE : Hid (worthM sd tr false ln k u c = wonS sd tr u c + mn sd tr false ln k (u.put tr c).1) := Lib.hid rfl
            have HW7 : Hid (worthM sd tr false ln k u c ≤ 7) := Lib.hid (worthM_le7 HAW.out.pos.tg HAW.out.kq HAW.out.q4 hleg)
            obtain ⟨u2, hue⟩ : ∃ x, (u.put tr c).1 = x := ⟨_, rfl⟩
            have HUE := Lib.hid hue
            obtain ⟨ws, hws⟩ : ∃ x, wonS sd tr u c = x := ⟨_, rfl⟩
            obtain ⟨mv, hmv⟩ : ∃ x, mn sd tr false ln k u2 = x := ⟨_, rfl⟩
            rw [hue, hws] at HAFT
            rw [hue] at HREC HOKU HP2
            rw [hws, hue, hmv] at HWE
            simp only [hmv] at HREC
            rw [HPE.out] at HAFT
            obtain ⟨wv, hwv⟩ : ∃ x, worthM sd tr false ln k u c = x := ⟨_, rfl⟩
            have HWV := Lib.hid hwv
            rw [hwv] at HW7 HWE
            have hsumI : (ws : Int) + (mv : Int) = (wv : Int) := by have := HWE.out; omega
            have hwv7 := HW7.out
            clear hp2 hq2 hk2 hue hws hmv hwv hci hleg
            go_upto_region 12 with fail
            refine wp_region_reliesT (ChF [.agg PU, .slice (some ⟨gL, 0, none⟩) N vc2, .int .i64 (i : Int), .pointer (some ⟨gL, i, none⟩), .int .i64 (c : Int), .pointer (some ⟨b3, 0, none⟩), .int .u8 (sd : Int), undef, undef, undef, .int .i64 (ws : Int), undef, undef, .int .i64 (ws : Int)] [7, 8, 9, 12] [11] (LxS wr u2 tr ws)) (fun _ => true) (by kernel_rfl) (by kernel_rfl) (by kernel_rfl) (by kernel_rfl) (ChF.start ⟨(Below.refl _ _).drew, trivial, trivial⟩) ?obls ?fini
            case obls =>
              refine ⟨⟨?_, ?_⟩, ⟨?_, ?_⟩, ⟨?_, ?_⟩, ⟨?_, ?_⟩, ⟨?_, ?_⟩, ⟨?_, ?_⟩, ⟨?_, ?_⟩, ⟨?_, ?_⟩, ⟨?_, ?_⟩, ⟨?_, ?_⟩, ⟨?_, ?_⟩, ⟨?_, ?_⟩, ⟨?_, ?_⟩, ⟨?_, ?_⟩, trivial⟩
              · rfl
              · rintro ρ f W ⟨vs, us, hX⟩ hfi hw hcl hf
                have f2 : ρ (.tmp 2) = .pointer (some ⟨b1, 0, none⟩) := hf.1 2 (by simp [Op.operands])
                exact ok_value (exec_load_row 62 (.tmp 2) rfl b1 f2 (by have h := (HAW.out.step hX.st.1).row; rw [HPE.out] at h; exact h) Tryd.underlying62 rfl (by rw [HPUZ.out]; exact size_rpos)) (hX.pure 0 _ (by decide) (by decide) rfl hX.st)
              · rfl
              · rintro ρ f W ⟨vs, us, hX⟩ hfi hw hcl hf
                have f7 : ρ (.tmp 7) = .slice (some ⟨gL, 0, none⟩) N vc2 := hf.1 7 (by simp [Op.operands])
                exact ok_value (v := .slice (some ⟨gL, 0, none⟩) N vc2) (w' := W) (by simp [execOp, f7]) (hX.pure 1 _ (by decide) (by decide) rfl hX.st)
              · rfl
              · rintro ρ f W ⟨vs, us, hX⟩ hfi hw hcl hf
                have f9 : ρ (.tmp 9) = .int .i64 (i : Int) := hf.1 9 (by simp [Op.operands])
                exact ok_value (v := .int .i64 (i : Int)) (w' := W) (by simp [execOp, f9]) (hX.pure 2 _ (by decide) (by decide) rfl hX.st)
              · rfl
              · rintro ρ f W ⟨vs, us, hX⟩ hfi hw hcl hf
                have f47 : ρ (.tmp 47) = .slice (some ⟨gL, 0, none⟩) N vc2 := hX.val 1 _ _ (by decide) (by decide) (hf.1 47 (by simp [Op.operands])) rfl
                have f48 : ρ (.tmp 48) = .int .i64 (i : Int) := hX.val 2 _ _ (by decide) (by decide) (hf.1 48 (by simp [Op.operands])) rfl
                exact ok_value (v := .pointer (some ⟨gL, i, none⟩)) (w' := W) (by simp [execOp, f47, f48, go_sem, hin]) (hX.pure 3 _ (by decide) (by decide) rfl hX.st)
              · rfl
              · rintro ρ f W ⟨vs, us, hX⟩ hfi hw hcl hf
                have f49 : ρ (.tmp 49) = .pointer (some ⟨gL, i, none⟩) := hX.val 3 _ _ (by decide) (by decide) (hf.1 49 (by simp [Op.operands])) rfl
                have ck := (hX.st.1.cell (p := ⟨gL, i, none⟩) HGW.out).trans ek
                exact ok_value (v := .int .i64 (c : Int)) (w' := W) (by simp [execOp, f49, go_sem, ck]) (hX.pure 4 _ (by decide) (by decide) rfl hX.st)
              · rfl
              · rintro ρ f W ⟨vs, us, hX⟩ hfi hw hcl hf
                have f3 : ρ (.tmp 3) = .pointer (some ⟨b3, 0, none⟩) := hf.1 3 (by simp [Op.operands])
                exact ok_value (v := .pointer (some ⟨b3, 0, none⟩)) (w' := W) (by simp [execOp, f3, go_sem]) (hX.pure 5 _ (by decide) (by decide) rfl hX.st)
              · rfl
              · rintro ρ f W ⟨vs, us, hX⟩ hfi hw hcl hf
                have f51 : ρ (.tmp 51) = .pointer (some ⟨b3, 0, none⟩) := hX.val 5 _ _ (by decide) (by decide) (hf.1 51 (by simp [Op.operands])) rfl
                have ck : W.cell? ⟨b3, 0, none⟩ = some (.int .u8 (sd : Int)) := ((HAW.out.step hX.st.1).clm.cell 0).trans HC0.out.1
                exact ok_value (v := .int .u8 (sd : Int)) (w' := W) (by simp [execOp, f51, go_sem, ck]) (hX.pure 6 _ (by decide) (by decide) rfl hX.st)
              · rfl
              · rintro ρ f W ⟨vs, us, hX⟩ hfi hw hcl hf
                have f46 : ρ (.tmp 46) = .agg PU := hX.val 0 _ _ (by decide) (by decide) (hf.1 46 (by simp [Op.operands, Call.operands])) rfl
                have f50 : ρ (.tmp 50) = .int .i64 (c : Int) := hX.val 4 _ _ (by decide) (by decide) (hf.1 50 (by simp [Op.operands, Call.operands])) rfl
                have f52 : ρ (.tmp 52) = .int .u8 (sd : Int) := hX.val 6 _ _ (by decide) (by decide) (hf.1 52 (by simp [Op.operands, Call.operands])) rfl
                have hl := hX.le1 0 7 rfl hfi
                obtain rfl := list0 hl
                obtain ⟨hbe, hus, -⟩ := hX.st
                refine ok_call (f := 62) (args := #[.agg PU, .int .i64 (c : Int), .int .u8 (sd : Int)]) ?_ ?_
                · simp [execOp, f46, f50, f52, hf.2.2.2, go_sem]
                refine (HAFT.out W ((HAW.out.step hbe).byt)).mono ?_
                rintro e w9 ⟨v, rfl, hov, hb9⟩
                exact ⟨_, rfl, hX.step1 7 _ rfl (by decide) (by decide) ⟨hbe.trans (hb9.mono hbe.size), hus.below hb9 (show _ < 4 from by simp) _, v, rfl, hov.mono hbe.size⟩⟩
              · rfl
              · rintro ρ f W ⟨vs, us, hX⟩ hfi hw hcl hf
                have g53 := hX.get1 0 7 rfl (hf.1 53 (by simp [Op.operands]))
                have hl := hX.le1 1 8 rfl hfi
                obtain ⟨p, rfl⟩ : ∃ p, vs = [p] := ⟨_, list1 hl g53⟩
                obtain ⟨hbe, hus, v, hv, hov⟩ := hX.st
                have f53 : ρ (.tmp 53) = p := (Option.some.inj (show some p = some (ρ (.tmp 53)) from g53)).symm
                exact ok_value (v := p) (w' := W) (by simp [execOp, f53]) (hX.step1 8 _ rfl (by decide) (by decide) ⟨hbe, hus.same (show _ < 4 from by simp) _, v, hv, hov⟩)
              · rfl
              · rintro ρ f W ⟨vs, us, hX⟩ hfi hw hcl hf
                have g45 := hX.get1 1 8 rfl (hf.1 45 (by simp [Op.operands]))
                have hl := hX.le1 2 9 rfl hfi
                obtain ⟨p0, rfl⟩ := list2 hl g45
                obtain ⟨hbe, hus, v, hv, hov⟩ := hX.st
                exact ok_value (v := .agg (posA u2.h tr u2.ld v)) (w' := W) (by simp [execOp, hv, go_sem]) (hX.step1 9 _ rfl (by decide) (by decide) ⟨hbe, hus.same (show _ < 4 from by simp) _, v, hv, rfl, hov⟩)
              · rfl
              · rintro ρ f W ⟨vs, us, hX⟩ hfi hw hcl hf
                have g45 := hX.get1 1 8 rfl (hf.1 45 (by simp [Op.operands]))
                obtain ⟨v, hv⟩ := LxS.tup hX.st g45
                exact ok_value (v := .int .i64 (ws : Int)) (w' := W) (by simp [execOp, hv, go_sem]) (hX.pure 10 _ (by decide) (by decide) rfl hX.st)
              · rfl
              · rintro ρ f W ⟨vs, us, hX⟩ hfi hw hcl hf
                have hl := hX.le2 0 11 rfl hfi
                obtain rfl := list0 hl
                refine ok_value (v := .pointer (some ⟨W.heap.size, 0, none⟩)) (w' := W.alloc (.cells zeroP 62)) (by simp [execOp, go_sem]) ?_
                exact hX.step2 11 _ rfl (by decide) (by decide) (LxS.al hX.st)
              · rfl
              · rintro ρ f W ⟨vs, us, hX⟩ hfi hw hcl hf
                have g10 := hX.get2 0 11 rfl (hf.1 10 (by simp [Op.operands]))
                have g54 := hX.get1 2 9 rfl (hf.1 54 (by simp [Op.operands]))
                have hl := hX.le1 3 12 rfl hfi
                obtain ⟨p0, p1, rfl⟩ := list3 hl g54
                obtain ⟨hbe, hus, v, hv, hx, hov⟩ := hX.st
                obtain ⟨ub, rfl⟩ : ∃ x, us = [x] := ⟨_, list1 hX.l2 g10⟩
                obtain ⟨b, rfl, hlo, hrow⟩ := hus
                have hr := hrow (by simp)
                have f10 : ρ (.tmp 10) = .pointer (some ⟨b, 0, none⟩) := (Option.some.inj (show some (Value.pointer (some ⟨b, 0, none⟩)) = some (ρ (.tmp 10)) from g10)).symm
                obtain ⟨xa, xc, rfl, -⟩ := OwnU.playedX hov HOKU.out
                have hz1 := posA_one u2.h tr u2.ld xa u2.cs.length xc
                refine ok_skip (exec_store_row 62 (.tmp 10) (.tmp 54) rfl b (posA u2.h tr u2.ld (.slice xa u2.cs.length xc)) f10 hx hr (by rw [hz1.1]; exact size_rpos) (by rw [hz1.1]; rfl) hz1.2) ?_
                exact hX.step1 12 _ rfl (by decide) (by decide) ⟨below_setRow hbe hlo _, ⟨b, rfl, hlo, fun h => absurd h (by simp)⟩, _, hv, hx, Owns.kept hov (grownBy_row W b _) (.inl (own_apart hov hr (by decide))), b, rfl, hlo, setRow_heap _ _ _ _ _ _ hr⟩
              · rfl
              · rintro ρ f W ⟨vs, us, hX⟩ hfi hw hcl hf
                have f55 : ρ (.tmp 55) = .int .i64 (ws : Int) := hX.val 10 _ _ (by decide) (by decide) (hf.1 55 (by simp [Op.operands])) rfl
                exact ok_value (v := .int .i64 (ws : Int)) (w' := W) (by simp [execOp, f55]) (hX.pure 13 _ (by decide) (by decide) rfl hX.st)
            case fini =>
            rintro us w6 hlen ⟨vs, us', hX⟩
            have hl0 : us.length = 14 := hlen
            obtain ⟨y0, y1, y2, y3, y4, y5, y6, y7, y8, y9, y10, y11, y12, y13, rfl⟩ := list14 hl0
            obtain rfl : y13 = _ := hX.val 13 _ _ (by decide) (by decide) rfl rfl
            obtain ⟨p0, p1, p2, rfl⟩ := list4 hX.l1 (hX.get1 3 12 rfl rfl)
            obtain ⟨hbe, -, v, -, -, hov, b10, hus, hlo, hrow⟩ := hX.st
            subst hus
            obtain rfl : y11 = .pointer (some ⟨b10, 0, none⟩) := (Option.some.inj (hX.get2 0 11 rfl rfl)).symm
            obtain ⟨xa, xc, rfl, hyu⟩ := OwnU.playedX hov HOKU.out
            have HUZ := Lib.hid (posA_one u2.h tr u2.ld xa u2.cs.length xc)
            have HRC := Lib.hid (fun W hzW hlW => HREC.out xa xc W hzW hlW)
            have HQ10 := Lib.hid hrow
            have HOV := Lib.hid hov
            have HXL : Hid (wr.heap.size ≤ b10 ∧ ∀ g, (Value.slice xa u2.cs.length xc).ownBlock = some g → wr.heap.size ≤ g) := Lib.hid ⟨hlo, fun g hg => (OwnU.ltB hov g hg).1⟩
            obtain ⟨QA, hQA⟩ : ∃ A, posA u2.h tr u2.ld (.slice xa u2.cs.length xc) = A := ⟨_, rfl⟩
            have HQA := Lib.hid hQA
            rw [hQA] at HUZ HRC HQ10
            have HA6 := Lib.hid (HAW.out.step hbe)
            have HB6 := Lib.hid (HBS.out.trans (hbe.mono HBS.out.size))
            have HY6 := Lib.hid hyu
            have ek6 := (hbe.cell (p := ⟨gL, i, none⟩) HGW.out).trans ek
            have HW6 : Hid (gL < w6.heap.size ∧ wr.heap.size ≤ w6.heap.size) := Lib.hid ⟨Nat.lt_of_lt_of_le HGW.out hbe.size, hbe.size⟩
            have HOB : Hid (∀ g, u6.ownBlock = some g → g < wr.heap.size) := Lib.hid fun g hg => (OwnU.ltB HAW.out.own g hg).2
            clear hX hlen hbe hov hlo hrow hyu hQA hl0 ek HAFT HBS HAW
            simp only [putAll, List.zip_cons_cons, List.zip_nil_right, List.foldl_cons, List.foldl_nil]
            simp only [Act.put, List.setIfInBounds_toArray, List.set_cons_succ, List.set_cons_zero]
            have e0 : w6.cell? ⟨b3, 0, none⟩ = some (.int .u8 (sd : Int)) := (HA6.out.clm.cell 0).trans HC0.out.1
            have e2 : w6.cell? ⟨b3, 2, none⟩ = some (.slice la nl lcap) := (HA6.out.clm.cell 2).trans HC0.out.2.2
            go_upto_region 13 with fail
            go_wp2_with (refine wpList_load_row rfl 62 (.tmp 10) rfl b10 rfl 62 QA (0, 0) _ HQ10.out Tryd.underlying62 rfl (by rw [HUZ.out.1]; exact size_rpos) ?_)
            refine (HRC.out w6 HY6.out (HLY0.out.below (Nat.le_refl _) HA6.out.below)).mono ?_
            rintro e w7 ⟨rfl, hb7⟩
            have HA7 := Lib.hid (HA6.out.step hb7)
            have HB7 := Lib.hid (HB6.out.trans (hb7.mono HB6.out.size))
            have HQ7 := Lib.hid (HQ10.out.later hb7)
            have HO7 := Lib.hid (Owns.below HOV.out hb7)
            have ek7 := (hb7.cell (p := ⟨gL, i, none⟩) HW6.out.1).trans ek6
            have HS7 : Hid (w6.heap.size ≤ w7.heap.size) := Lib.hid hb7.size
            clear hb7 e0 e2 ek6 HA6 HB6 HQ10 HOV HRC
            by_cases hwa : wv = al
            · have hwb : ((wv : Int) == (al : Int)) = true := by rw [beq_iff_eq, hwa]
              have HAC : Hid (agC sd tr ln k u = c) := Lib.hid (HFIRST.out i c HCI.out HNO.out (HWV.out.trans hwa))
              have hc52 := HC52.out
              have hcw : IntKind.u8.wrap (c : Int) = (c : Int) := by rw [IntKind.wrap_u8]; omega
              have HPL24 : Hid (Pl.length ≤ 16) := Lib.hid (by have h1 := congrArg List.length HA7.out.sum; rw [List.length_append] at h1; have h2 := HL16.out; omega)
              clear hwa
              go_upto_region 14 with fail
              go_upto_region 15 with (at_builtin; refine appU rfl (.tmp 66) (.tmp 72) rfl base _ Pl [c] rfl (HA7.out.own.alloc _) _ _ _ rfl (byt_new1 w7 c (by omega)) (by have := HPL24.out; omega) (by rw [World.size_alloc]; have := HA7.out.lo; omega) ?_; intro v2 w10 hown10 hb10 hg10 hnb10)
              have HA8 := Lib.hid (HA7.out.step ((Below.refl w7.heap.size w7).alloc (Nat.le_refl _) (.cells #[.int .u8 (c : Int)] 5)))
              have HO10 := Lib.hid hown10
              have HG10 := Lib.hid hg10
              have HN10 := Lib.hid hnb10
              have HB10 := Lib.hid hb10
              have HQ8 := Lib.hid (HQ7.out.alloc (.cells #[.int .u8 (c : Int)] 5))
              have HO8 := Lib.hid (Owns.alloc HO7.out (.cells #[.int .u8 (c : Int)] 5))
              clear hown10 hg10 hnb10 hb10 ek7 hwb hcw
              have HQ9 := Lib.hid (HQ8.out.grown HG10.out (fun e => own_apart HA8.out.own HQ8.out (by decide) e.symm))
              have HP9 := Lib.hid (HA8.out.row.grown HG10.out (fun e => own_apart HA8.out.own HA8.out.row (by decide) e.symm))
              have HC9 := Lib.hid (HA8.out.clm.grown HG10.out (fun e => own_apart HA8.out.own HA8.out.clm (by decide) e.symm))
              rw [HPE.out] at HP9
              have HAPT : Hid (Apt u6 (.slice xa u2.cs.length xc)) := Lib.hid fun g hg hx => by
                have h1 := HOB.out g hg
                have h2 := HXL.out.2 g hx
                omega
              have HX9 := Lib.hid (Owns.kept HO8.out HG10.out HAPT.out.row)
              have HAP9 := Lib.hid (HAPT.out.app HO8.out HN10.out)
              go_wp2_with (first
                | refine wpList_load_row rfl 62 (.tmp 10) rfl b10 rfl 62 QA (0, 0) _ HQ9.out Tryd.underlying62 rfl (by rw [HUZ.out.1]; exact size_rpos) ?_
                | refine wpList_store_row rfl 62 (.tmp 2) (.tmp 74) rfl b1 QA rfl rfl 62 _ HP9.out (by rw [HUZ.out.1]; exact size_rpos) (by rw [HUZ.out.1, HPUZ.out]) HUZ.out.2 ?_)
              go_roundg k
              case measure => omega
              case rel =>
                have hX10 := Owns.kept HX9.out (grownBy_row _ b1 QA) (.inl (own_apart HX9.out HP9.out (by decide)))
                obtain ⟨xa', xc', hxe, hxb⟩ := OwnU.playedX hX10 HOKU.out
                injection hxe with x1 x2 x3
                refine ⟨u2, q2, xa, xc, Pl ++ [c], ⟨by rw [HQA.out]; exact setRow_heap _ _ _ _ _ _ HP9.out, HC9.out.same (setRow_other _ _ _ _ (by have := HB13.out; omega)), by rw [x1]; exact hxb, Owns.kept HO10.out (grownBy_row _ b1 QA) (.inl (own_apart HO10.out HP9.out (by decide))), HP2.out.1, HP2.out.2.1, HP2.out.2.2, ?_, Nat.le_trans HA8.out.lo (by rw [size_setRow]; exact HB10.out.size), ?_⟩⟩
                · rw [List.append_assoc]
                  show Pl ++ (c :: agL sd tr ln k u2) = L
                  have := HA8.out.sum
                  rw [show agL sd tr ln (k + 1) u = agC sd tr ln k u :: agL sd tr ln k (u.put tr (agC sd tr ln k u)).1 from rfl, HAC.out, HUE.out] at this
                  exact this
                · exact below_setRow (HA8.out.below.trans (HB10.out.mono HBASE.out)) (by rw [HB1.out]; exact Nat.le_refl _) _
            · have hwb : ((wv : Int) == (al : Int)) = false := by rw [beq_eq_false_iff_ne]; omega
              have HN1 : Hid (∀ j x, j < i + 1 → Lc[j]? = some x → worthM sd tr false ln k u x ≠ al) := Lib.hid fun j x hj hx => by
                rcases Nat.lt_succ_iff_lt_or_eq.1 hj with h | rfl
                · exact HNO.out j x h hx
                · rw [HCI.out] at hx
                  rw [← Option.some.inj hx, HWV.out]; exact hwa
              clear hwa ek7
              go_wp2_with fail
              go_roundg (N - (i + 1))
              case measure => omega
              case rel => exact ⟨i + 1, rfl, by omega, by go_num, rfl, HN1.out, HB7.out⟩
          · exfalso
            have hiN : i = N := by omega
            obtain ⟨x, hx, he⟩ := HSOME.out
            obtain ⟨j, hj, e⟩ := List.mem_iff_getElem.1 hx
            exact HNO.out j x (by have := HLN.out; omega) (by rw [List.getElem?_eq_getElem hj, e]) he
end Go.Proofs.YtnbillhodbcfbaaDoor
