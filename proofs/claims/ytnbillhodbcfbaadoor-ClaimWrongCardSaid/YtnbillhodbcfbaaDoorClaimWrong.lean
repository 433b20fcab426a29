/- ClaimWrong over this seat's program. -/
import Derived.Test.YtnbillhodbcfbaaDoorMCls
namespace Go.Proofs.YtnbillhodbcfbaaDoor
open Go.RowKit Go.Sort Go.Shelf Go.Maps Go.WideMaps

theorem byt_row0 {W : World} {b : Nat} (ln : List Nat) (h : Row W b 5 (ln.map fun (z : Nat) => Value.int .u8 (z : Int)).toArray) (h256 : ∀ y ∈ ln, y < 256) (hl : ln.length ≤ 1000) : Byt W (some ⟨b, 0, none⟩) ln.length ln := by
  refine ⟨rfl, by omega, fun i => ?_, .inr ⟨b, 0, rfl, h.lt, fun i hi => ?_⟩⟩
  · rcases Nat.lt_or_ge i ln.length with h | h
    · exact h256 _ (by rw [List.getD_eq_getElem?_getD, List.getElem?_eq_getElem h]; exact List.getElem_mem h)
    · rw [List.getD_eq_getElem?_getD, List.getElem?_eq_none h]; exact (by decide : (0 : Nat) < 256)
  · rw [Nat.zero_add, h.cell i]
    simp [List.getD_eq_getElem?_getD, hi]
/-- six claims that are not right -/
def badA (mx mi : Int) (s : Nat) : Array Value := #[.int .u8 2, .int .i64 0, .slice none 0 0, .int .u8 0, .int .i64 mx, .slice none 0 0, .int .u8 0, .int .i64 mi, .slice none 0 0, .int .u8 0, .int .i64 0, .slice (some ⟨s, 0, none⟩) 2 2, .int .u8 0, .int .i64 0, .slice (some ⟨s + 1, 0, none⟩) 1 1, .int .u8 0, .int .i64 0, .slice (some ⟨s + 1 + 1, 0, none⟩) 25 25]
theorem bad_claim {W : World} {mx mi : Int} {s q : Nat} (hx : (q : Int) < mx) (hi : mi < 0) (h1 : Row W s 5 #[.int .u8 7, .int .u8 7]) (h2 : Row W (s + 1) 5 #[.int .u8 52]) (h3 : Row W (s + 1 + 1) 5 (Array.replicate 25 (.int .u8 0))) {k : Nat} (hk : k < 6) :
    ∃ (sd : Nat) (tk : Int) (la : Option Addr) (ln : List Nat) (nl lcap : Nat), sd < 256 ∧ claimB sd tk ln q = false ∧ ln.length = nl ∧ Byt W la ln.length ln ∧ (badA mx mi s)[k * 3]? = some (.int .u8 (sd : Int)) ∧ (badA mx mi s)[k * 3 + 1]? = some (.int .i64 tk) ∧ (badA mx mi s)[k * 3 + 2]? = some (.slice la nl lcap) := by
  rcases (show k = 0 ∨ k = 1 ∨ k = 2 ∨ k = 3 ∨ k = 4 ∨ k = 5 by omega) with rfl | rfl | rfl | rfl | rfl | rfl
  · exact ⟨2, 0, none, [], 0, 0, by decide, by simp [claimB], rfl, ch_nil W, rfl, rfl, rfl⟩
  · exact ⟨0, mx, none, [], 0, 0, by decide, by simp [claimB]; omega, rfl, ch_nil W, rfl, rfl, rfl⟩
  · exact ⟨0, mi, none, [], 0, 0, by decide, by simp [claimB]; omega, rfl, ch_nil W, rfl, rfl, rfl⟩
  · exact ⟨0, 0, some ⟨s, 0, none⟩, [7, 7], 2, 2, by decide, by rw [show claimB 0 0 [7, 7] q = (decide (0 ≤ 1) && decide ((0 : Int) ≤ 0) && decide ((0 : Int) ≤ (q : Int)) && decide (2 ≤ 24) && playOk (fun _ => 0) [7, 7] 2) from rfl, show playOk (fun _ => 0) [7, 7] 2 = false by decide]; simp, rfl, byt_row0 [7, 7] h1 (by decide) (by decide), rfl, rfl, rfl⟩
  · exact ⟨0, 0, some ⟨s + 1, 0, none⟩, [52], 1, 1, by decide, by rw [show claimB 0 0 [52] q = (decide (0 ≤ 1) && decide ((0 : Int) ≤ 0) && decide ((0 : Int) ≤ (q : Int)) && decide (1 ≤ 24) && playOk (fun _ => 0) [52] 1) from rfl, show playOk (fun _ => 0) [52] 1 = false by decide]; simp, rfl, byt_row0 [52] h2 (by decide) (by decide), rfl, rfl, rfl⟩
  · exact ⟨0, 0, some ⟨s + 1 + 1, 0, none⟩, List.replicate 25 0, 25, 25, by decide, by simp [claimB], rfl, byt_row0 (List.replicate 25 0) (by rw [show (List.map (fun (z : Nat) => Value.int .u8 (z : Int)) (List.replicate 25 0)).toArray = Array.replicate 25 (Value.int .u8 0) from rfl]; exact h3) (by decide) (by decide), rfl, rfl, rfl⟩
theorem make_bytesN (n : Nat) (hn : n ≤ 1000) (w1 : World) : (Instr.makeSlice 25 (.int .i64 (n : Int)) (.int .i64 (n : Int))).run Tryd.prog w1 = .ok (.slice (some ⟨w1.heap.size, 0, none⟩) n n) (w1.alloc (.cells (Array.replicate n (.int .u8 0)) 5)) := by
  obtain ⟨i, hq, h0, h1, h2⟩ := info_parts info_u8'
  have hr := run_makeSlice (P := Tryd.prog) w1 25 5 i (.int .u8 0) Tryd.underlying25 hq h0 .i64 .i64 (n : Int) (n : Int) (by omega) (by omega) (by rw [h1]; simp; omega) (by rw [h2]; omega) (by omega)
  have e : madeCells (Value.int .u8 0).cells n = Array.replicate n (.int .u8 0) := by
    apply Array.ext_getElem?
    intro j
    by_cases hj : j < n
    · simp [madeCells, hj, Value.cells, Nat.mod_one]
    · rw [Array.getElem?_eq_none (by simp [size_madeCells]; omega), Array.getElem?_eq_none (by simp; omega)]
  rw [hr]
  simp only [Int.toNat_natCast, h1, Nat.mul_one, e]
set_option maxHeartbeats 4000000 in
set_option maxRecDepth 10000 in
theorem law_ClaimWrong (a : Option Addr) (len cap : Nat) (zs : List Nat) (n tr ld : Nat) (x : Int) (w : World) (hz : Byt w a len zs) (hn : n < 256) (htr : tr < 256) (hld : ld < 256) (hx : -9223372036854775808 ≤ x ∧ x ≤ 9223372036854775807) (hT : Tab w) :
    Calls Tryd.prog 9 #[.slice a len cap, .int .u8 (n : Int), .int .u8 (tr : Int), .int .u8 (ld : Int), .int .i64 x] w fun e w' => e = .returned (.bool true) ∧ Below w.heap.size w w' := by
  have HT := Lib.hid hT
  have HDE := Lib.hid (dm_Dealt a len cap zs n tr ld 3 hn htr hld (by decide) w hz)
  have hq4 : n % (3 + 1) ≤ 4 := by omega
  have hq3 : n % (3 + 1) ≤ 3 := by omega
  have ht5 : tr % 5 < 5 := by omega
  have hl4 : ld % 4 < 4 := by omega
  obtain ⟨q, hq⟩ : ∃ q, n % (3 + 1) = q := ⟨_, rfl⟩
  obtain ⟨t5, htt⟩ : ∃ q, tr % 5 = q := ⟨_, rfl⟩
  obtain ⟨l4, hll⟩ : ∃ q, ld % 4 = q := ⟨_, rfl⟩
  rw [hq, htt, hll] at HDE
  rw [hq] at hq4 hq3
  rw [htt] at ht5
  rw [hll] at hl4
  have hnq : (n : Int) % 4 = (q : Int) := by omega
  have hnt : (n : Int).tmod 4 = (q : Int) := by rw [Int.tmod_eq_emod_of_nonneg (by omega)]; omega
  simp only [show ((3 : Nat) : Int) = 3 from rfl] at HDE
  clear hq htt hll hz hT
  have HNQ := Lib.hid (And.intro hnq hnt)
  clear hnq hnt
  go_enter Tryd.func9, Tryd.ntmps9
  go_upto_region 1 with fail
  go_wp2_with fail
  refine HDE.out.mono ?_
  rintro e w1 ⟨h, hD, rfl, hb1⟩
  obtain ⟨hrt, hRP⟩ := dealt_all hD hq4 ht5 hl4
  have HPZ : Hid ((posA h t5 l4 (.slice none 0 0)).size = 7 ∧ (posA h t5 l4 (.slice none 0 0)).all (·.oneCell') = true) := Lib.hid ⟨rfl, by simp [posA, Value.oneCell']⟩
  obtain ⟨PA, hPA⟩ : ∃ A, posA h t5 l4 (.slice none 0 0) = A := ⟨_, rfl⟩
  have HPA := Lib.hid hPA
  have HD := Lib.hid hD
  rw [hPA] at HPZ ⊢
  clear hD hrt hRP
  have HN := Lib.hid (Row.new w1 27 zeroP)
  have ha := below_setRow ((Below.refl w1.heap.size w1).alloc (Nat.le_refl _) (.cells zeroP 27)) (Nat.le_refl _) PA
  have HR := Lib.hid (show Row ((w1.alloc (.cells zeroP 27)).setRow w1.heap.size PA) w1.heap.size 27 PA from setRow_heap _ _ _ _ _ _ HN.out)
  have HB := Lib.hid (hb1.trans (ha.mono hb1.size))
  have HW1 := Lib.hid hb1.size
  clear hb1 ha hPA
  go_upto_region 2 with (refine wpList_store_row rfl 27 (.tmp 11) (.tmp 35) rfl w1.heap.size PA rfl rfl 27 _ HN.out (by rw [HPZ.out.1]; exact size_pos) (by rw [HPZ.out.1]; rfl) HPZ.out.2 ?_)
  generalize (w1.alloc (.cells zeroP 27)).setRow w1.heap.size PA = w2 at *
  obtain ⟨bp, hbp⟩ : ∃ b, w1.heap.size = b := ⟨_, rfl⟩
  rw [hbp] at HR ⊢
  have HBP : Hid (w.heap.size ≤ bp) := Lib.hid (by rw [← hbp]; exact HW1.out)
  clear hbp HN
  have hnq := HNQ.out.1
  have hnt := HNQ.out.2
  go_upto_region 3 with fail
  obtain ⟨mx, hmx⟩ : ∃ m : Int, m = max x ((q : Int) + 1) := ⟨_, rfl⟩
  obtain ⟨mi, hmi⟩ : ∃ m : Int, m = min x (-1) := ⟨_, rfl⟩
  have m1 : (if x < (q : Int) + 1 then (q : Int) + 1 else x) = mx := by split <;> omega
  have m2 : (if (q : Int) + 1 < x then x else (q : Int) + 1) = mx := by split <;> omega
  have m3 : (if x < -1 then x else -1) = mi := by split <;> omega
  have m4 : (if -1 < x then -1 else x) = mi := by split <;> omega
  have hmk : ∀ w1 : World, (Instr.makeSlice 25 (.int .i64 25) (.int .i64 25)).run Tryd.prog w1 = .ok (.slice (some ⟨w1.heap.size, 0, none⟩) 25 25) (w1.alloc (.cells (Array.replicate 25 (.int .u8 0)) 5)) := make_bytesN 25 (by decide)
  have HMX := Lib.hid hmx
  have HMI := Lib.hid hmi
  clear hmx hmi
  go_upto_region 4 with fail
  have HB3 : Hid (Below w.heap.size w ((((w2.alloc (.cells #[.int .u8 7, .int .u8 7] 5)).alloc (.cells #[.int .u8 52] 5)).alloc (.cells (Array.replicate 25 (.int .u8 0)) 5)).alloc (.cells (badA mx mi w2.heap.size) 44))) := Lib.hid ((((HB.out.alloc HB.out.size _).alloc (Nat.le_trans HB.out.size (by simp)) _).alloc (Nat.le_trans HB.out.size (by simp <;> omega)) _).alloc (Nat.le_trans HB.out.size (by simp <;> omega)) _)
  have hs1 : (w2.alloc (.cells #[.int .u8 7, .int .u8 7] 5)).heap.size = w2.heap.size + 1 := by simp
  have hs2 : ((w2.alloc (.cells #[.int .u8 7, .int .u8 7] 5)).alloc (.cells #[.int .u8 52] 5)).heap.size = w2.heap.size + 1 + 1 := by simp
  have hs3 : (((w2.alloc (.cells #[.int .u8 7, .int .u8 7] 5)).alloc (.cells #[.int .u8 52] 5)).alloc (.cells (Array.replicate 25 (.int .u8 0)) 5)).heap.size = w2.heap.size + 1 + 1 + 1 := by simp
  have hr2 := (Row.new (w2.alloc (.cells #[.int .u8 7, .int .u8 7] 5)) 5 #[.int .u8 52])
  have hr3 := (Row.new ((w2.alloc (.cells #[.int .u8 7, .int .u8 7] 5)).alloc (.cells #[.int .u8 52] 5)) 5 (Array.replicate 25 (.int .u8 0)))
  have hr4 := (Row.new (((w2.alloc (.cells #[.int .u8 7, .int .u8 7] 5)).alloc (.cells #[.int .u8 52] 5)).alloc (.cells (Array.replicate 25 (.int .u8 0)) 5)) 44 (badA mx mi w2.heap.size))
  rw [hs1] at hr2
  rw [hs2] at hr3
  rw [hs3] at hr4
  have HX1 := Lib.hid ((((Row.new w2 5 #[.int .u8 7, .int .u8 7]).alloc (.cells #[.int .u8 52] 5)).alloc (.cells (Array.replicate 25 (.int .u8 0)) 5)).alloc (.cells (badA mx mi w2.heap.size) 44))
  have HX2 := Lib.hid ((hr2.alloc (.cells (Array.replicate 25 (.int .u8 0)) 5)).alloc (.cells (badA mx mi w2.heap.size) 44))
  have HX3 := Lib.hid (hr3.alloc (.cells (badA mx mi w2.heap.size) 44))
  have HX4 := Lib.hid hr4
  have HR3 := Lib.hid ((((HR.out.alloc (.cells #[.int .u8 7, .int .u8 7] 5)).alloc (.cells #[.int .u8 52] 5)).alloc (.cells (Array.replicate 25 (.int .u8 0)) 5)).alloc (.cells (badA mx mi w2.heap.size) 44))
  clear hs1 hs2 hs3 hr2 hr3 hr4
  show Code.wp _ _ _ _ ((((w2.alloc (.cells #[.int .u8 7, .int .u8 7] 5)).alloc (.cells #[.int .u8 52] 5)).alloc (.cells (Array.replicate 25 (.int .u8 0)) 5)).alloc (.cells (badA mx mi w2.heap.size) 44))
  generalize (((w2.alloc (.cells #[.int .u8 7, .int .u8 7] 5)).alloc (.cells #[.int .u8 52] 5)).alloc (.cells (Array.replicate 25 (.int .u8 0)) 5)).alloc (.cells (badA mx mi w2.heap.size) 44) = w3 at *
  have hmxq : (q : Int) < mx := by have := HMX.out; omega
  have hmi0 : mi < 0 := by have := HMI.out; omega
  have HBC := Lib.hid (fun (k : Nat) (hk : k < 6) => bad_claim hmxq hmi0 HX1.out HX2.out HX3.out hk)
  obtain ⟨CB, hCB⟩ : ∃ A, badA mx mi w2.heap.size = A := ⟨_, rfl⟩
  rw [hCB] at HBC HX4
  obtain ⟨bc, hbc⟩ : ∃ b, w2.heap.size + 1 + 1 + 1 = b := ⟨_, rfl⟩
  rw [hbc] at HX4 ⊢
  have HW3 := Lib.hid (show w.heap.size ≤ w3.heap.size from HB3.out.size)
  obtain ⟨x1, hx1⟩ : ∃ v, Value.slice (some ⟨w2.heap.size, 0, none⟩) 2 2 = v := ⟨_, rfl⟩
  obtain ⟨x2, hx2⟩ : ∃ v, Value.slice (some ⟨w2.heap.size + 1, 0, none⟩) 1 1 = v := ⟨_, rfl⟩
  obtain ⟨x3, hx3⟩ : ∃ v, Value.slice (some ⟨w2.heap.size + 1 + 1, 0, none⟩) 25 25 = v := ⟨_, rfl⟩
  rw [hx1, hx2, hx3]
  clear hx1 hx2 hx3 HX1 HX2 HX3 hCB hbc hmxq hmi0 m1 m2 m3 m4 hmk HMX HMI HR HB hnq hnt
  try dsimp only [Act.put]
  go_loopg [56] 6 (fun g kv wr => ∃ (k : Nat), g = 6 - k ∧ k ≤ 6 ∧ kv = .int .i64 (k : Int) ∧ Below w3.heap.size w3 wr)
  case atStart => exact ⟨0, rfl, by omega, rfl, Below.refl _ _⟩
  case round =>
    obtain ⟨k, rfl, hk, rfl, hb⟩ := hrel
    have HB4 := Lib.hid (HB3.out.trans (hb.mono HW3.out))
    have HA4 := Lib.hid hb
    clear hb
    by_cases hlt : k < 6
    · have hdk : decide (k < 6) = true := by simp; omega
      have hdK : decide ((k : Int) < 6) = true := by simp; omega
      obtain ⟨sd, tk, la, ln, nl, lcap, hsd, hcl, hnl, hby, g0, g1, g2⟩ := HBC.out k hlt
      have HNLk := Lib.hid hnl
      have HC4 := Lib.hid (HX4.out.later HA4.out)
      have k0 : wr.cell? ⟨bc, k * 3, none⟩ = some (.int .u8 (sd : Int)) := (HC4.out.cell _).trans g0
      have k1 : wr.cell? ⟨bc, k * 3 + 1, none⟩ = some (.int .i64 tk) := (HC4.out.cell _).trans g1
      have k2 : wr.cell? ⟨bc, k * 3 + 2, none⟩ = some (.slice la nl lcap) := (HC4.out.cell _).trans g2
      have HLN := Lib.hid hby
      have HCL := Lib.hid (And.intro hsd hcl)
      clear hnl hby g0 g1 g2 hcl hsd
      go_upto_region 6 with fail
      have hbb := (Below.refl wr.heap.size wr).alloc (Nat.le_refl _) (.cells (cmA sd tk (.slice la nl lcap)) 44)
      have HB5 := Lib.hid (HB4.out.trans (hbb.mono HB4.out.size))
      have HA5 := Lib.hid (HA4.out.trans (hbb.mono HA4.out.size))
      have HC5 := Lib.hid (Row.new wr 44 (cmA sd tk (.slice la nl lcap)))
      have HR5 := Lib.hid ((HR3.out.later HA4.out).later hbb)
      clear hbb HC4 k0 k1 k2 HB4
      show Code.wp _ _ _ _ (wr.alloc (.cells (cmA sd tk (.slice la nl lcap)) 44))
      generalize wr.alloc (.cells (cmA sd tk (.slice la nl lcap)) 44) = w5 at *
      obtain ⟨bq, hbq⟩ : ∃ b, wr.heap.size = b := ⟨_, rfl⟩
      rw [hbq] at HC5 ⊢
      clear hbq HA4
      have HY5 := Lib.hid (HLN.out.below (Nat.le_refl _) HA5.out)
      have hr : (rightB h t5 l4 [] && claimB sd tk ln (pop (h ((l4 + ([] : List Nat).length) % 4)))) = false := by rw [HD.out.turn l4, HCL.out.2, Bool.and_false]
      have hPA' : posA h t5 l4 (.slice none ([] : List Nat).length 0) = PA := HPA.out
      have hnl := HNLk.out
      have HNext := Lib.hid (fun W (hl : Byt W la ln.length ln) => cl_Next_no h t5 l4 [] none 0 sd tk ln la lcap HD.out.w64 (by omega) (by omega) HCL.out.1 W (ch_nil W) hl hr)
      rw [hPA', hnl] at HNext
      have HSure := Lib.hid (fun W (hl : Byt W la ln.length ln) => cl_Sure_no h t5 l4 [] none 0 sd tk ln la lcap HD.out.w64 (by omega) (by omega) HCL.out.1 W (ch_nil W) hl hr)
      rw [hPA', hnl] at HSure
      have HAgainst := Lib.hid (fun W (hl : Byt W la ln.length ln) => cl_Against_no h t5 l4 [] none 0 sd tk ln la lcap HD.out.w64 (by omega) (by omega) HCL.out.1 W (ch_nil W) hl hr)
      rw [hPA', hnl] at HAgainst
      have HAward := Lib.hid (fun W (hl : Byt W la ln.length ln) => cl_Award_no h t5 l4 [] none 0 sd tk ln la lcap HD.out.w64 (by omega) (by omega) HCL.out.1 W (ch_nil W) hl hr)
      rw [hPA', hnl] at HAward
      have HRight := Lib.hid (fun W (hl : Byt W la ln.length ln) => cl_Right h t5 l4 [] none 0 sd tk ln la lcap HD.out.w64 (by omega) (by omega) HCL.out.1 W (ch_nil W) hl)
      rw [hPA', hnl, hr] at HRight
      rw [hnl] at HY5
      clear hr hPA' hnl
      go_wp2_with (first
    | refine wpList_load_row rfl 27 (.tmp 11) rfl bp rfl 27 PA (0, 0) _ HR5.out Tryd.underlying27 rfl (by rw [HPZ.out.1]; exact size_pos) ?_
    | refine wpList_load_row rfl 44 (.tmp 14) rfl bq rfl 44 (cmA sd tk (.slice la nl lcap)) (0, 0) _ HC5.out Tryd.underlying44 rfl size_cm ?_)
      refine (HNext.out _ HY5.out).mono ?_
      rintro e w6 ⟨rfl, hb⟩
      have HR6 := Lib.hid (HR5.out.later hb)
      have HC6 := Lib.hid (HC5.out.later hb)
      have HY6 := Lib.hid (HY5.out.below (Nat.le_refl _) hb)
      have HB6 := Lib.hid (HB5.out.trans (hb.mono HB5.out.size))
      have HA6 := Lib.hid (HA5.out.trans (hb.mono HA5.out.size))
      clear hb HR5 HC5 HY5 HB5 HA5
      go_wp2_with (first
    | refine wpList_load_row rfl 27 (.tmp 11) rfl bp rfl 27 PA (0, 0) _ HR6.out Tryd.underlying27 rfl (by rw [HPZ.out.1]; exact size_pos) ?_
    | refine wpList_load_row rfl 44 (.tmp 14) rfl bq rfl 44 (cmA sd tk (.slice la nl lcap)) (0, 0) _ HC6.out Tryd.underlying44 rfl size_cm ?_)
      refine (HSure.out _ HY6.out).mono ?_
      rintro e w7 ⟨rfl, hb⟩
      have HR7 := Lib.hid (HR6.out.later hb)
      have HC7 := Lib.hid (HC6.out.later hb)
      have HY7 := Lib.hid (HY6.out.below (Nat.le_refl _) hb)
      have HB7 := Lib.hid (HB6.out.trans (hb.mono HB6.out.size))
      have HA7 := Lib.hid (HA6.out.trans (hb.mono HA6.out.size))
      clear hb HR6 HC6 HY6 HB6 HA6
      go_wp2_with (first
    | refine wpList_load_row rfl 27 (.tmp 11) rfl bp rfl 27 PA (0, 0) _ HR7.out Tryd.underlying27 rfl (by rw [HPZ.out.1]; exact size_pos) ?_
    | refine wpList_load_row rfl 44 (.tmp 14) rfl bq rfl 44 (cmA sd tk (.slice la nl lcap)) (0, 0) _ HC7.out Tryd.underlying44 rfl size_cm ?_)
      refine (HAgainst.out _ HY7.out).mono ?_
      rintro e w8 ⟨rfl, hb⟩
      have HR8 := Lib.hid (HR7.out.later hb)
      have HC8 := Lib.hid (HC7.out.later hb)
      have HY8 := Lib.hid (HY7.out.below (Nat.le_refl _) hb)
      have HB8 := Lib.hid (HB7.out.trans (hb.mono HB7.out.size))
      have HA8 := Lib.hid (HA7.out.trans (hb.mono HA7.out.size))
      clear hb HR7 HC7 HY7 HB7 HA7
      go_wp2_with (first
    | refine wpList_load_row rfl 27 (.tmp 11) rfl bp rfl 27 PA (0, 0) _ HR8.out Tryd.underlying27 rfl (by rw [HPZ.out.1]; exact size_pos) ?_
    | refine wpList_load_row rfl 44 (.tmp 14) rfl bq rfl 44 (cmA sd tk (.slice la nl lcap)) (0, 0) _ HC8.out Tryd.underlying44 rfl size_cm ?_)
      refine (HAward.out _ HY8.out).mono ?_
      rintro e w9 ⟨rfl, hb⟩
      have HR9 := Lib.hid (HR8.out.later hb)
      have HC9 := Lib.hid (HC8.out.later hb)
      have HY9 := Lib.hid (HY8.out.below (Nat.le_refl _) hb)
      have HB9 := Lib.hid (HB8.out.trans (hb.mono HB8.out.size))
      have HA9 := Lib.hid (HA8.out.trans (hb.mono HA8.out.size))
      clear hb HR8 HC8 HY8 HB8 HA8
      go_wp2_with (first
    | refine wpList_load_row rfl 27 (.tmp 11) rfl bp rfl 27 PA (0, 0) _ HR9.out Tryd.underlying27 rfl (by rw [HPZ.out.1]; exact size_pos) ?_
    | refine wpList_load_row rfl 44 (.tmp 14) rfl bq rfl 44 (cmA sd tk (.slice la nl lcap)) (0, 0) _ HC9.out Tryd.underlying44 rfl size_cm ?_)
      refine (HRight.out _ HY9.out).mono ?_
      rintro e w10 ⟨rfl, hb⟩
      have HR10 := Lib.hid (HR9.out.later hb)
      have HC10 := Lib.hid (HC9.out.later hb)
      have HY10 := Lib.hid (HY9.out.below (Nat.le_refl _) hb)
      have HB10 := Lib.hid (HB9.out.trans (hb.mono HB9.out.size))
      have HA10 := Lib.hid (HA9.out.trans (hb.mono HA9.out.size))
      clear hb HR9 HC9 HY9 HB9 HA9
      clear HBC HNext HSure HAgainst HAward HRight HR10 HC10 HY10 HX4 HLN HCL HNLk
      go_wp2_with fail
      go_roundg (6 - (k + 1))
      case measure => omega
      case rel => exact ⟨k + 1, rfl, by omega, by go_num, HA10.out⟩
    · have hdk : decide (k < 6) = false := by simp; omega
      have hdK : decide ((k : Int) < 6) = false := by simp; omega
      have hPA' : posA h t5 l4 (.slice none ([] : List Nat).length 0) = PA := HPA.out
      have hr5 : rightB h 5 l4 [] = false := by unfold rightB; simp
      have HM2 := Lib.hid (fun W => cl_Must_no h t5 l4 [] none 0 2 HD.out.w64 (by omega) (by omega) W (ch_nil W) (.inr (by decide)))
      have HB255 := Lib.hid (fun W => cl_Best_no h t5 l4 [] none 0 255 HD.out.w64 (by omega) (by omega) W (ch_nil W) (.inr (by decide)))
      have HM0 := Lib.hid (fun W => cl_Must_no h 5 l4 [] none 0 0 HD.out.w64 (by omega) (by omega) W (ch_nil W) (.inl hr5))
      have HSX := Lib.hid (fun W => cl_Sure_no h 5 l4 [] none 0 0 0 [] none 0 HD.out.w64 (by omega) (by omega) (by omega) W (ch_nil W) (ch_nil W) (by rw [hr5]; rfl))
      rw [hPA'] at HM2 HB255
      have HP5 : Hid (PA.setIfInBounds 4 (.int .u8 5) = posA h 5 l4 (.slice none ([] : List Nat).length 0)) := Lib.hid (by rw [← HPA.out]; rfl)
      have HP4 : Hid (PA[4]? = some (.int .u8 (t5 : Int))) := Lib.hid (by rw [← HPA.out]; rfl)
      rw [← HP5.out] at HM0 HSX
      have HR4 := Lib.hid (HR3.out.later HA4.out)
      clear hlt hr5 hPA' HBC HX4
      go_wp2_with (refine wpList_load_row rfl 27 (.tmp 11) rfl bp rfl 27 PA (0, 0) _ HR4.out Tryd.underlying27 rfl (by rw [HPZ.out.1]; exact size_pos) ?_)
      refine (HM2.out _).mono ?_
      rintro e w5 ⟨rfl, hb⟩
      have HR5 := Lib.hid (HR4.out.later hb)
      have HB5 := Lib.hid (HB4.out.trans (hb.mono HB4.out.size))
      clear hb HR4
      go_wp2_with (refine wpList_load_row rfl 27 (.tmp 11) rfl bp rfl 27 PA (0, 0) _ HR5.out Tryd.underlying27 rfl (by rw [HPZ.out.1]; exact size_pos) ?_)
      refine (HB255.out _).mono ?_
      rintro e w6 ⟨rfl, hb⟩
      have HR6 := Lib.hid (HR5.out.later hb)
      have HB6 := Lib.hid (HB5.out.trans (hb.mono HB5.out.size))
      clear hb HR5
      go_upto_region 15 with fail
      have hf := HR6.out.frozen 4
      have hcv : w6.cell? ⟨bp, 4, none⟩ = some (.int .u8 (t5 : Int)) := (HR6.out.cell 4).trans HP4.out
      have HR7 := Lib.hid (HR6.out.set 4 (.int .u8 5))
      have hB7 := (Below.refl bp w6).setCell (p := ⟨bp, 4, none⟩) (Nat.le_refl _) (.int .u8 5)
      have HB7 : Hid (Below w.heap.size w (w6.setCell ⟨bp, 4, none⟩ (.int .u8 5))) := Lib.hid (HB6.out.trans (hB7.mono HBP.out))
      go_upto_region 16 with fail
      clear hcv hf HR6 hB7
      generalize w6.setCell ⟨bp, 4, none⟩ (.int .u8 5) = w7 at *
      have HPZ5 : Hid ((PA.setIfInBounds 4 (.int .u8 5)).size = 7) := Lib.hid (by rw [Array.size_setIfInBounds]; exact HPZ.out.1)
      generalize PA.setIfInBounds 4 (.int .u8 5) = PB at *
      go_wp2_with (refine wpList_load_row rfl 27 (.tmp 11) rfl bp rfl 27 PB (0, 0) _ HR7.out Tryd.underlying27 rfl (by rw [HPZ5.out]; exact size_pos) ?_)
      refine (HM0.out _).mono ?_
      rintro e w8 ⟨rfl, hb⟩
      have HR8 := Lib.hid (HR7.out.later hb)
      have HB8 := Lib.hid (HB7.out.trans (hb.mono HB7.out.size))
      clear hb HR7
      go_wp2_with (refine wpList_load_row rfl 27 (.tmp 11) rfl bp rfl 27 PB (0, 0) _ HR8.out Tryd.underlying27 rfl (by rw [HPZ5.out]; exact size_pos) ?_)
      refine (HSX.out _).mono ?_
      rintro e w9 ⟨rfl, hb⟩
      have HB9 := Lib.hid (HB8.out.trans (hb.mono HB8.out.size))
      have HAK := Lib.hid (cl_awake w9 (HT.out.below HT.out.pos HB9.out))
      clear hb HR8
      go_wp2_with fail
      refine HAK.out.mono ?_
      rintro e w10 ⟨rfl, hb9⟩
      have HB10 := Lib.hid (HB9.out.trans (hb9.mono HB9.out.size))
      clear hb9
      go_wp2_with fail
      go_ret
      exact ⟨rfl, HB10.out⟩
end Go.Proofs.YtnbillhodbcfbaaDoor
