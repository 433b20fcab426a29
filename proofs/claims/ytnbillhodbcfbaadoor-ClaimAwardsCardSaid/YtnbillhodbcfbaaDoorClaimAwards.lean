/- ClaimAwards over this seat's program. -/
import Derived.Test.YtnbillhodbcfbaaDoorMCls
import Derived.Test.YtnbillhodbcfbaaDoorDmQc
namespace Go.Proofs.YtnbillhodbcfbaaDoor
open Go.RowKit Go.Sort Go.Shelf Go.Maps Go.WideMaps

set_option maxHeartbeats 4000000 in
set_option maxRecDepth 10000 in
theorem law_ClaimAwards (a : Option Addr) (len cap : Nat) (zs : List Nat) (n tr ld side : Nat) (a2 : Option Addr) (len2 cap2 : Nat) (zs2 : List Nat) (w : World) (hz : Byt w a len zs) (hn : n < 256) (htr : tr < 256) (hld : ld < 256) (hsi : side < 256) (hz2 : Byt w a2 len2 zs2) (hT : Tab w) :
    Calls Tryd.prog 6 #[.slice a len cap, .int .u8 (n : Int), .int .u8 (tr : Int), .int .u8 (ld : Int), .int .u8 (side : Int), .slice a2 len2 cap2] w fun e w' => e = .returned (.bool true) ∧ Below w.heap.size w w' := by
  have HT := Lib.hid hT
  have HZ2 := Lib.hid hz2
  have HDE := Lib.hid (dm_Dealt a len cap zs n tr ld 3 hn htr hld (by decide) w hz)
  have hq4 : n % (3 + 1) ≤ 4 := by omega
  have ht5 : tr % 5 < 5 := by omega
  have hl4 : ld % 4 < 4 := by omega
  have hs2 : side % 2 < 2 := by omega
  obtain ⟨q, hq⟩ : ∃ q, n % (3 + 1) = q := ⟨_, rfl⟩
  obtain ⟨t5, htt⟩ : ∃ q, tr % 5 = q := ⟨_, rfl⟩
  obtain ⟨l4, hll⟩ : ∃ q, ld % 4 = q := ⟨_, rfl⟩
  obtain ⟨sd, hsd⟩ : ∃ q, side % 2 = q := ⟨_, rfl⟩
  rw [hq, htt, hll] at HDE
  rw [hq] at hq4
  rw [htt] at ht5
  rw [hll] at hl4
  rw [hsd] at hs2
  have hnq : (n : Int) % 4 = (q : Int) := by omega
  have hnt : (n : Int).tmod 4 = (q : Int) := by rw [Int.tmod_eq_emod_of_nonneg (by omega)]; omega
  have hs1 : (side : Int) % 2 = (sd : Int) := by omega
  have hst : (side : Int).tmod 2 = (sd : Int) := by rw [Int.tmod_eq_emod_of_nonneg (by omega)]; omega
  have hsw : IntKind.u8.wrap (sd : Int) = (sd : Int) := by rw [IntKind.wrap_u8]; omega
  simp only [show ((3 : Nat) : Int) = 3 from rfl] at HDE
  clear hq htt hll hz hT hsd hz2
  have HNQ := Lib.hid (And.intro hnq hnt)
  clear hnq hnt
  go_enter Tryd.func6, Tryd.ntmps6
  go_upto_region 1 with fail
  go_wp2_with fail
  refine HDE.out.mono ?_
  rintro e w1 ⟨h, hD, rfl, hb1⟩
  have hrt : rightB h t5 l4 [] = true := hD.right (by omega) (by omega) (by omega)
  have HPZ : Hid ((posA h t5 l4 (.slice none 0 0)).size = 7 ∧ (posA h t5 l4 (.slice none 0 0)).all (·.oneCell') = true) := Lib.hid ⟨rfl, by simp [posA, Value.oneCell']⟩
  have HMU := Lib.hid (fun W (hT : Tab W) => cl_Must_ok h t5 l4 [] none 0 sd hD.w64 (by omega) (by omega) hs2 W (ch_nil W) hT q (hD.turn l4) hq4 hrt)
  have HSU := Lib.hid (fun W (hT : Tab W) la lcap (hl : Byt W la (lnd zs2).length (lnd zs2)) hln => cl_Sure_ok h t5 l4 [] none 0 sd 0 (lnd zs2) la lcap hD.w64 (by omega) (by omega) hs2 W (ch_nil W) hl hln hT q (hD.turn l4) hq4 hrt (lnd_claim zs2 hs2 (by omega) (by omega)) (lnd_ok zs2).2.2)
  have HAW := Lib.hid (fun (k : Nat) (hk : k ≤ q) W (hT : Tab W) la lcap (hl : Byt W la (lnd zs2).length (lnd zs2)) hln => cl_Award_ok h t5 l4 [] none 0 sd (k : Int) (lnd zs2) la lcap hD.w64 (by omega) (by omega) hs2 W (ch_nil W) hl hln hT q (hD.turn l4) hq4 hrt (lnd_claim zs2 hs2 (by omega) (by omega)) (lnd_ok zs2).2.2)
  obtain ⟨x, hx⟩ : ∃ r, mn sd t5 true [] (4 * q - ([] : List Nat).length) ⟨h, l4, []⟩ = r := ⟨_, rfl⟩
  obtain ⟨y, hy⟩ : ∃ r, mn sd t5 false (lnd zs2) (4 * q - ([] : List Nat).length) ⟨h, l4, []⟩ = r := ⟨_, rfl⟩
  have HXY : Hid (x ≤ y) := Lib.hid (by rw [← hx, ← hy]; exact mn_free_le _ _ (right_of hD.w64 hrt).ok.pk)
  rw [hx] at HMU
  rw [hy] at HSU
  rw [hx, hy] at HAW
  obtain ⟨PA, hPA⟩ : ∃ A, posA h t5 l4 (.slice none 0 0) = A := ⟨_, rfl⟩
  have hPA' : posA h t5 l4 (.slice none ([] : List Nat).length 0) = PA := hPA
  rw [hPA] at HPZ ⊢
  rw [hPA'] at HSU HMU HAW
  have HLO := Lib.hid (lnd_ok zs2)
  have HN := Lib.hid (Row.new w1 27 zeroP)
  have ha := below_setRow ((Below.refl w1.heap.size w1).alloc (Nat.le_refl _) (.cells zeroP 27)) (Nat.le_refl _) PA
  have HR := Lib.hid (show Row ((w1.alloc (.cells zeroP 27)).setRow w1.heap.size PA) w1.heap.size 27 PA from setRow_heap _ _ _ _ _ _ HN.out)
  have HB := Lib.hid (hb1.trans (ha.mono hb1.size))
  clear hb1 ha hx hy hPA hPA' hD hrt
  go_upto_region 2 with (refine wpList_store_row rfl 27 (.tmp 13) (.tmp 26) rfl w1.heap.size PA rfl rfl 27 _ HN.out (by rw [HPZ.out.1]; exact size_pos) (by rw [HPZ.out.1]; rfl) HPZ.out.2 ?_)
  generalize (w1.alloc (.cells zeroP 27)).setRow w1.heap.size PA = w2 at *
  obtain ⟨b13, hb13⟩ : ∃ b, w1.heap.size = b := ⟨_, rfl⟩
  rw [hb13] at HR ⊢
  clear hb13 HN
  go_wp2_with fail
  refine (law16_lined a2 len2 cap2 zs2 w2 (HZ2.out.below (Nat.le_refl _) HB.out)).mono ?_
  rintro e w3 ⟨v, rfl, hown, hb3⟩
  obtain ⟨la, lcap, rfl, -, -, -, hbase, hby⟩ := hown.byt (by have := HLO.out.2.1; omega) (fun i => by
    rcases Nat.lt_or_ge i (lnd zs2).length with h | h
    · have := HLO.out.2.2 ((lnd zs2).getD i 0) (by rw [List.getD_eq_getElem?_getD, List.getElem?_eq_getElem h]; exact List.getElem_mem h)
      omega
    · rw [List.getD_eq_getElem?_getD, List.getElem?_eq_none h]; exact (by decide : (0 : Nat) < 256))
  have HLA : Hid (∀ b off, la = some ⟨b, off, none⟩ → b < w3.heap.size) := Lib.hid fun b off e => (hbase _ e).2
  obtain ⟨nl, hnl⟩ : ∃ z, (lnd zs2).length = z := ⟨_, rfl⟩
  rw [hnl] at hby HSU HAW ⊢
  have HC4 := Lib.hid (Row.new w3 44 (cmA sd 0 (.slice la nl lcap)))
  have ha := (Below.refl w3.heap.size w3).alloc (Nat.le_refl _) (.cells (cmA sd 0 (.slice la nl lcap)) 44)
  have HR4 := Lib.hid ((HR.out.later hb3).later ha)
  have HB4 := Lib.hid ((HB.out.trans (hb3.mono HB.out.size)).trans (ha.mono (Nat.le_trans HB.out.size hb3.size)))
  have HY4 := Lib.hid (hby.below (Nat.le_refl _) ha)
  have HT4 := Lib.hid (HT.out.below HT.out.pos HB4.out)
  have HL4 : Hid (∀ (W : World), Below w3.heap.size w3 W → ∀ b off, la = some ⟨b, off, none⟩ → b < W.heap.size) := Lib.hid fun W hb b off e => Nat.lt_of_lt_of_le (HLA.out b off e) hb.size
  have HA4 := Lib.hid ha
  have HYW := Lib.hid hby
  have HRW := Lib.hid (HR.out.later hb3)
  have HW3 := Lib.hid (show w.heap.size ≤ w3.heap.size from Nat.le_trans HB.out.size hb3.size)
  clear ha hb3 hown hbase hby HR HB hnl
  go_upto_region 3 with fail
  show Code.wp _ _ _ _ (w3.alloc (.cells (cmA sd 0 (.slice la nl lcap)) 44))
  generalize w3.alloc (.cells (cmA sd 0 (.slice la nl lcap)) 44) = w4 at *
  obtain ⟨b14, hb14⟩ : ∃ b, w3.heap.size = b := ⟨_, rfl⟩
  rw [hb14] at HC4 ⊢
  have HB14 := Lib.hid hb14
  clear hb14
  go_wp2_with (first
    | refine wpList_load_row rfl 27 (.tmp 13) rfl b13 rfl 27 PA (0, 0) _ HR4.out Tryd.underlying27 rfl (by rw [HPZ.out.1]; exact size_pos) ?_
    | refine wpList_load_row rfl 44 (.tmp 14) rfl b14 rfl 44 (cmA sd 0 (.slice la nl lcap)) (0, 0) _ HC4.out Tryd.underlying44 rfl size_cm ?_)
  refine (HSU.out _ HT4.out la lcap HY4.out (HL4.out _ HA4.out)).mono ?_
  rintro e w5 ⟨rfl, hb⟩
  have HR5 := Lib.hid (HR4.out.later hb)
  have HC5 := Lib.hid (HC4.out.later hb)
  have HY5 := Lib.hid (HY4.out.below (Nat.le_refl _) hb)
  have HB5 := Lib.hid (HB4.out.trans (hb.mono HB4.out.size))
  have HA5 := Lib.hid (HA4.out.trans (hb.mono HA4.out.size))
  have HT5 := Lib.hid (HT4.out.below HT4.out.pos hb)
  clear hb HR4 HC4 HY4 HB4 HA4 HT4
  have c0 : w5.cell? ⟨b14, 0, none⟩ = some (.int .u8 (sd : Int)) := HC5.out.cell 0
  go_wp2_with (first
    | refine wpList_load_row rfl 27 (.tmp 13) rfl b13 rfl 27 PA (0, 0) _ HR5.out Tryd.underlying27 rfl (by rw [HPZ.out.1]; exact size_pos) ?_
    | refine wpList_load_row rfl 44 (.tmp 14) rfl b14 rfl 44 (cmA sd 0 (.slice la nl lcap)) (0, 0) _ HC5.out Tryd.underlying44 rfl size_cm ?_)
  refine (HMU.out _ HT5.out).mono ?_
  rintro e w6 ⟨rfl, hb⟩
  have HR6 := Lib.hid (HR5.out.later hb)
  have HC6 := Lib.hid (HC5.out.later hb)
  have HY6 := Lib.hid (HY5.out.below (Nat.le_refl _) hb)
  have HB6 := Lib.hid (HB5.out.trans (hb.mono HB5.out.size))
  have HA6 := Lib.hid (HA5.out.trans (hb.mono HA5.out.size))
  clear hb HR5 HC5 HY5 HB5 HA5 HT5 c0
  go_wp2_with fail
  try dsimp only [Act.put]
  go_loopg [19] (q + 1) (fun g kv wr => ∃ (k : Nat) (tk : Int), g = q + 1 - k ∧ k ≤ q + 1 ∧ kv = .int .i64 (k : Int) ∧ Row wr b14 44 (cmA sd tk (.slice la nl lcap)) ∧ Below w.heap.size w wr ∧ Below w3.heap.size w3 wr)
  case atStart => exact ⟨0, 0, by omega, by omega, rfl, HC6.out, HB6.out, HA6.out⟩
  case round =>
    obtain ⟨k, tk, rfl, hk, rfl, hc, hb, ha⟩ := hrel
    have HC7 := Lib.hid hc
    have HB7 := Lib.hid hb
    have HA7 := Lib.hid ha
    clear hc hb ha
    have hnq := HNQ.out.1
    have hnt := HNQ.out.2
    by_cases hlt : k ≤ q
    · have hdk : decide (k ≤ q) = true := by simp; omega
      have hdK : decide ((k : Int) ≤ (q : Int)) = true := by simp; omega
      have HAk := Lib.hid (HAW.out k hlt)
      have hxy := HXY.out
      have hf := HC7.out.frozen 1
      have HC9 := Lib.hid (HC7.out.set 1 (.int .i64 (k : Int)))
      have hB9 := (Below.refl b14 wr).setCell (p := ⟨b14, 1, none⟩) (Nat.le_refl _) (.int .i64 (k : Int))
      have hlw : w.heap.size ≤ b14 := by rw [← HB14.out]; exact HW3.out
      have HB9 : Hid (Below w.heap.size w (wr.setCell ⟨b14, 1, none⟩ (.int .i64 (k : Int)))) := Lib.hid (HB7.out.trans (hB9.mono hlw))
      have HA9 : Hid (Below w3.heap.size w3 (wr.setCell ⟨b14, 1, none⟩ (.int .i64 (k : Int)))) := Lib.hid (HA7.out.trans (by rw [HB14.out]; exact hB9))
      have HY9 := Lib.hid (HYW.out.below (Nat.le_refl _) HA9.out)
      have HR9 := Lib.hid (HRW.out.later HA9.out)
      have HT9 := Lib.hid (HT.out.below HT.out.pos HB9.out)
      have hcv : wr.cell? ⟨b14, 1, none⟩ = some (.int .i64 tk) := HC7.out.cell 1
      have hset : (cmA sd tk (.slice la nl lcap)).setIfInBounds 1 (.int .i64 (k : Int)) = cmA sd (k : Int) (.slice la nl lcap) := by simp [cmA]
      rw [hset] at HC9
      clear hset hB9 hlw HB7 HA7
      go_upto_region 11 with fail
      clear hcv hf HC7
      generalize wr.setCell ⟨b14, 1, none⟩ (.int .i64 (k : Int)) = w9 at *
      have HAW := Lib.hid (fun W hT hl hln => HAk.out W hT la lcap hl hln)
      have hHL := HL4.out w9 HA9.out
      rcases Nat.lt_or_ge k x with hcase | hcase1
      · have HAV : Hid (max (x : Int) (min (y : Int) (k : Int)) = (x : Int)) := Lib.hid (by omega)
        rw [HAV.out] at HAW
        have d1 : decide (y < x) = false := by simp; omega
        have d3 : decide (x ≤ k) = false := by simp; omega
        have d5 : decide (y < k) = false := by simp; omega
        have d6 : decide (k < x) = true := by simp; omega
        clear hcase
        go_wp2_with (first
    | refine wpList_load_row rfl 27 (.tmp 13) rfl b13 rfl 27 PA (0, 0) _ HR9.out Tryd.underlying27 rfl (by rw [HPZ.out.1]; exact size_pos) ?_
    | refine wpList_load_row rfl 44 (.tmp 14) rfl b14 rfl 44 (cmA sd (k : Int) (.slice la nl lcap)) (0, 0) _ HC9.out Tryd.underlying44 rfl size_cm ?_)
        refine (HAW.out _ HT9.out HY9.out hHL).mono ?_
        rintro e w10 ⟨rfl, hb10⟩
        have HC10 := Lib.hid (HC9.out.later hb10)
        have HB10 := Lib.hid (HB9.out.trans (hb10.mono HB9.out.size))
        have HA10 := Lib.hid (HA9.out.trans (hb10.mono HA9.out.size))
        clear hb10 HC9 HB9 HA9 HR9 HY9 HT9 HAW hHL
        go_wp2_with fail
        go_roundg (q + 1 - (k + 1))
        case measure => omega
        case rel => exact ⟨k + 1, _, rfl, by omega, by go_num, HC10.out, HB10.out, HA10.out⟩
      · rcases Nat.lt_or_ge y k with hcase | hcase2
        · have HAV : Hid (max (x : Int) (min (y : Int) (k : Int)) = (y : Int)) := Lib.hid (by omega)
          rw [HAV.out] at HAW
          have d2 : decide (y < x) = false := by simp; omega
          have d3 : decide (x ≤ k) = true := by simp; omega
          have d4 : decide (k ≤ y) = false := by simp; omega
          have d5 : decide (y < k) = true := by simp; omega
          have d6 : decide (k < x) = false := by simp; omega
          clear hcase hcase1
          go_wp2_with (first
    | refine wpList_load_row rfl 27 (.tmp 13) rfl b13 rfl 27 PA (0, 0) _ HR9.out Tryd.underlying27 rfl (by rw [HPZ.out.1]; exact size_pos) ?_
    | refine wpList_load_row rfl 44 (.tmp 14) rfl b14 rfl 44 (cmA sd (k : Int) (.slice la nl lcap)) (0, 0) _ HC9.out Tryd.underlying44 rfl size_cm ?_)
          refine (HAW.out _ HT9.out HY9.out hHL).mono ?_
          rintro e w10 ⟨rfl, hb10⟩
          have HC10 := Lib.hid (HC9.out.later hb10)
          have HB10 := Lib.hid (HB9.out.trans (hb10.mono HB9.out.size))
          have HA10 := Lib.hid (HA9.out.trans (hb10.mono HA9.out.size))
          clear hb10 HC9 HB9 HA9 HR9 HY9 HT9 HAW hHL
          go_wp2_with fail
          go_roundg (q + 1 - (k + 1))
          case measure => omega
          case rel => exact ⟨k + 1, _, rfl, by omega, by go_num, HC10.out, HB10.out, HA10.out⟩
        · have HAV : Hid (max (x : Int) (min (y : Int) (k : Int)) = (k : Int)) := Lib.hid (by omega)
          rw [HAV.out] at HAW
          have d1 : decide (y < k) = false := by simp; omega
          have d2 : decide (k < x) = false := by simp; omega
          have d3 : decide (x ≤ k) = true := by simp; omega
          have d4 : decide (k ≤ y) = true := by simp; omega
          clear hcase1 hcase2
          go_wp2_with (first
    | refine wpList_load_row rfl 27 (.tmp 13) rfl b13 rfl 27 PA (0, 0) _ HR9.out Tryd.underlying27 rfl (by rw [HPZ.out.1]; exact size_pos) ?_
    | refine wpList_load_row rfl 44 (.tmp 14) rfl b14 rfl 44 (cmA sd (k : Int) (.slice la nl lcap)) (0, 0) _ HC9.out Tryd.underlying44 rfl size_cm ?_)
          refine (HAW.out _ HT9.out HY9.out hHL).mono ?_
          rintro e w10 ⟨rfl, hb10⟩
          have HC10 := Lib.hid (HC9.out.later hb10)
          have HB10 := Lib.hid (HB9.out.trans (hb10.mono HB9.out.size))
          have HA10 := Lib.hid (HA9.out.trans (hb10.mono HA9.out.size))
          clear hb10 HC9 HB9 HA9 HR9 HY9 HT9 HAW hHL
          go_wp2_with fail
          go_roundg (q + 1 - (k + 1))
          case measure => omega
          case rel => exact ⟨k + 1, _, rfl, by omega, by go_num, HC10.out, HB10.out, HA10.out⟩
    · have hdk : decide (k ≤ q) = false := by simp; omega
      have hdK : decide ((k : Int) ≤ (q : Int)) = false := by simp; omega
      have HAK := Lib.hid (cl_awake wr (HT.out.below HT.out.pos HB7.out))
      clear hlt
      go_wp2_with fail
      refine HAK.out.mono ?_
      rintro e w9 ⟨rfl, hb9⟩
      have HB9 := Lib.hid (HB7.out.trans (hb9.mono HB7.out.size))
      clear hb9
      go_wp2_with fail
      go_ret
      exact ⟨rfl, HB9.out⟩
end Go.Proofs.YtnbillhodbcfbaaDoor
