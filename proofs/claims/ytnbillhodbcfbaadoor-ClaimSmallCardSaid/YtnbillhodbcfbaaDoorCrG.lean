/- claim's and the reference's Sure, Must, Best, Award, of any position and claim. -/
import Derived.Test.YtnbillhodbcfbaaDoorMCre
namespace Go.Proofs.YtnbillhodbcfbaaDoor
open Go.RowKit Go.Shelf Go.Sort Go.Maps Go.WideMaps

theorem not_bad {b : Bool} {sd : Nat} (hr : b = true) (hs : sd < 2) : ¬ (b = false ∨ 2 ≤ sd) := by
  rintro (e | e)
  · rw [hr] at e; cases e
  · omega
def sureV (h : Nat → Nat) (tr ld : Nat) (ps : List Nat) (sd : Nat) (tk : Int) (ln : List Nat) : Nat × Nat := if (rightB h tr ld ps && claimB sd tk ln (pop (h ((ld + ps.length) % 4)))) = false then (0, 2) else (mn sd tr false ln (4 * (pop (h ((ld + ps.length) % 4))) - ps.length) ⟨h, ld, ps⟩, 0)
def mustV (h : Nat → Nat) (tr ld : Nat) (ps : List Nat) (sd : Nat) : Nat × Nat := if rightB h tr ld ps = false ∨ 2 ≤ sd then (0, 2) else (mn sd tr true [] (4 * (pop (h ((ld + ps.length) % 4))) - ps.length) ⟨h, ld, ps⟩, 0)
def bestVV (h : Nat → Nat) (tr ld : Nat) (ps : List Nat) (sd : Nat) : Nat × Nat := if rightB h tr ld ps = false ∨ 2 ≤ sd then (0, 2) else (bestV sd tr (pop (h ((ld + ps.length) % 4))) (4 * (pop (h ((ld + ps.length) % 4))) - ps.length) ⟨h, ld, ps⟩, 0)
def awardV (h : Nat → Nat) (tr ld : Nat) (ps : List Nat) (sd : Nat) (tk : Int) (ln : List Nat) : Int × Nat := if (rightB h tr ld ps && claimB sd tk ln (pop (h ((ld + ps.length) % 4)))) = false then (0, 2) else (max ((mustV h tr ld ps sd).1 : Int) (min ((sureV h tr ld ps sd tk ln).1 : Int) tk), 0)
theorem cl_Sure_any (h : Nat → Nat) (tr ld : Nat) (ps : List Nat) (a : Option Addr) (cap sd : Nat) (tk : Int) (ln : List Nat) (la : Option Addr) (lcap : Nat) (hw : ∀ s, W64 (h s)) (htr : tr < 256) (hld : ld < 256) (hsd : sd < 256) (w : World) (hz : Byt w a ps.length ps) (hl : Byt w la ln.length ln) (hln : ∀ b off, la = some ⟨b, off, none⟩ → b < w.heap.size) (hT : Tab w) (hq4 : rightB h tr ld ps = true → pop (h ((ld + ps.length) % 4)) ≤ 4) :
    Calls Tryd.prog 17 #[.agg (posA h tr ld (.slice a ps.length cap)), .agg (cmA sd tk (.slice la ln.length lcap))] w fun e w' => e = .returned (.tuple #[.int .i64 ((sureV h tr ld ps sd tk ln).1 : Int), .int .i64 ((sureV h tr ld ps sd tk ln).2 : Int)]) ∧ Below w.heap.size w w' := by
  unfold sureV
  by_cases hok : (rightB h tr ld ps && claimB sd tk ln (pop (h ((ld + ps.length) % 4)))) = false
  · rw [if_pos hok]
    exact cl_Sure_no h tr ld ps a cap sd tk ln la lcap hw htr hld hsd w hz hl hok
  · rw [if_neg hok]
    have hok2 : (rightB h tr ld ps && claimB sd tk ln (pop (h ((ld + ps.length) % 4)))) = true := by simpa using hok
    rw [Bool.and_eq_true] at hok2
    obtain ⟨hr, hc⟩ := hok2
    obtain ⟨hs2, -, -, -, h52⟩ := claim_parts hc
    exact cl_Sure_ok h tr ld ps a cap sd tk ln la lcap hw htr hld hs2 w hz hl hln hT _ rfl (hq4 hr) hr hc h52
theorem cl_Must_any (h : Nat → Nat) (tr ld : Nat) (ps : List Nat) (a : Option Addr) (cap sd : Nat) (hw : ∀ s, W64 (h s)) (htr : tr < 256) (hld : ld < 256) (hsd : sd < 256) (w : World) (hz : Byt w a ps.length ps) (hT : Tab w) (hq4 : rightB h tr ld ps = true → pop (h ((ld + ps.length) % 4)) ≤ 4) :
    Calls Tryd.prog 18 #[.agg (posA h tr ld (.slice a ps.length cap)), .int .u8 (sd : Int)] w fun e w' => e = .returned (.tuple #[.int .i64 ((mustV h tr ld ps sd).1 : Int), .int .i64 ((mustV h tr ld ps sd).2 : Int)]) ∧ Below w.heap.size w w' := by
  unfold mustV
  by_cases hok : rightB h tr ld ps = false ∨ 2 ≤ sd
  · rw [if_pos hok]
    exact cl_Must_no h tr ld ps a cap sd hw htr hld w hz hok
  · rw [if_neg hok]
    have hr : rightB h tr ld ps = true := by
      cases hr : rightB h tr ld ps
      · exact absurd (.inl hr) hok
      · rfl
    exact cl_Must_ok h tr ld ps a cap sd hw htr hld (by omega) w hz hT _ rfl (hq4 hr) hr
theorem cl_Best_any (h : Nat → Nat) (tr ld : Nat) (ps : List Nat) (a : Option Addr) (cap sd : Nat) (hw : ∀ s, W64 (h s)) (htr : tr < 256) (hld : ld < 256) (hsd : sd < 256) (w : World) (hz : Byt w a ps.length ps) (hT : Tab w) (hq4 : rightB h tr ld ps = true → pop (h ((ld + ps.length) % 4)) ≤ 4) :
    Calls Tryd.prog 19 #[.agg (posA h tr ld (.slice a ps.length cap)), .int .u8 (sd : Int)] w fun e w' => e = .returned (.tuple #[.int .i64 ((bestVV h tr ld ps sd).1 : Int), .int .i64 ((bestVV h tr ld ps sd).2 : Int)]) ∧ Below w.heap.size w w' := by
  unfold bestVV
  by_cases hok : rightB h tr ld ps = false ∨ 2 ≤ sd
  · rw [if_pos hok]
    exact cl_Best_no h tr ld ps a cap sd hw htr hld w hz hok
  · rw [if_neg hok]
    have hr : rightB h tr ld ps = true := by
      cases hr : rightB h tr ld ps
      · exact absurd (.inl hr) hok
      · rfl
    exact cl_Best_ok h tr ld ps a cap sd hw htr hld (by omega) w hz hT _ rfl (hq4 hr) hr
theorem cl_Award_any (h : Nat → Nat) (tr ld : Nat) (ps : List Nat) (a : Option Addr) (cap sd : Nat) (tk : Int) (ln : List Nat) (la : Option Addr) (lcap : Nat) (hw : ∀ s, W64 (h s)) (htr : tr < 256) (hld : ld < 256) (hsd : sd < 256) (w : World) (hz : Byt w a ps.length ps) (hl : Byt w la ln.length ln) (hln : ∀ b off, la = some ⟨b, off, none⟩ → b < w.heap.size) (hT : Tab w) (hq4 : rightB h tr ld ps = true → pop (h ((ld + ps.length) % 4)) ≤ 4) :
    Calls Tryd.prog 24 #[.agg (posA h tr ld (.slice a ps.length cap)), .agg (cmA sd tk (.slice la ln.length lcap))] w fun e w' => e = .returned (.tuple #[.int .i64 (awardV h tr ld ps sd tk ln).1, .int .i64 ((awardV h tr ld ps sd tk ln).2 : Int)]) ∧ Below w.heap.size w w' := by
  unfold awardV
  by_cases hok : (rightB h tr ld ps && claimB sd tk ln (pop (h ((ld + ps.length) % 4)))) = false
  · rw [if_pos hok]
    exact cl_Award_no h tr ld ps a cap sd tk ln la lcap hw htr hld hsd w hz hl hok
  · rw [if_neg hok]
    have hok2 : (rightB h tr ld ps && claimB sd tk ln (pop (h ((ld + ps.length) % 4)))) = true := by simpa using hok
    rw [Bool.and_eq_true] at hok2
    obtain ⟨hr, hc⟩ := hok2
    obtain ⟨hs2, -, -, -, h52⟩ := claim_parts hc
    have hm : mustV h tr ld ps sd = (mn sd tr true [] (4 * (pop (h ((ld + ps.length) % 4))) - ps.length) ⟨h, ld, ps⟩, 0) := if_neg (not_bad hr hs2)
    have hs : sureV h tr ld ps sd tk ln = (mn sd tr false ln (4 * (pop (h ((ld + ps.length) % 4))) - ps.length) ⟨h, ld, ps⟩, 0) := if_neg hok
    rw [hm, hs]
    exact cl_Award_ok h tr ld ps a cap sd tk ln la lcap hw htr hld hs2 w hz hl hln hT _ rfl (hq4 hr) hr hc h52
theorem pos_len {q : Nat} {t : Tb} (H : PosT q t) : (4 * q - t.cs.length) + t.cs.length = 4 * q := by
  have h1 := H.some
  have h2 := H.ok.pk.2
  omega
set_option maxHeartbeats 2000000 in
set_option maxRecDepth 10000 in
theorem cr_Sure (h : Nat → Nat) (tr ld : Nat) (ps : List Nat) (a : Option Addr) (cap sd : Nat) (tk : Int) (ln : List Nat) (la : Option Addr) (lcap : Nat) (hw : ∀ s, W64 (h s)) (htr : tr < 256) (hld : ld < 256) (hsd : sd < 256) (w : World) (hz : Byt w a ps.length ps) (hl : Byt w la ln.length ln) (hq4 : rightB h tr ld ps = true → pop (h ((ld + ps.length) % 4)) ≤ 4) :
    Calls Tryd.prog 30 #[.agg (posA h tr ld (.slice a ps.length cap)), .agg (cmA sd tk (.slice la ln.length lcap))] w fun e w' => e = .returned (.tuple #[.int .i64 ((sureV h tr ld ps sd tk ln).1 : Int), .int .i64 ((sureV h tr ld ps sd tk ln).2 : Int)]) ∧ Below w.heap.size w w' := by
  have hb1 := (Below.refl w.heap.size w).alloc (Nat.le_refl _) (.cells (posA h tr ld (.slice a ps.length cap)) 62)
  have hb2 := hb1.alloc hb1.size (.cells (cmA sd tk (.slice la ln.length lcap)) 64)
  have HRI := Lib.hid (cr_Right h tr ld ps a cap sd tk ln la lcap hw htr hld hsd _ (hz.below (Nat.le_refl _) hb2) (hl.below (Nat.le_refl _) hb2))
  have HB := Lib.hid hb2
  have HR := Lib.hid ((Row.new w 62 (posA h tr ld (.slice a ps.length cap))).alloc (.cells (cmA sd tk (.slice la ln.length lcap)) 64))
  have HC := Lib.hid (Row.new (w.alloc (.cells (posA h tr ld (.slice a ps.length cap)) 62)) 64 (cmA sd tk (.slice la ln.length lcap)))
  have HY := Lib.hid (hz.below (Nat.le_refl _) hb2)
  have HLY := Lib.hid (hl.below (Nat.le_refl _) hb2)
  have hsz : (w.alloc (.cells (posA h tr ld (.slice a ps.length cap)) 62)).heap.size = w.heap.size + 1 := by simp
  rw [hsz] at HC
  clear hb1 hb2 hsz
  obtain ⟨V, hV⟩ : ∃ V, sureV h tr ld ps sd tk ln = V := ⟨_, rfl⟩
  have HV := Lib.hid hV
  have HOK := Lib.hid (fun (hok : (rightB h tr ld ps && claimB sd tk ln (pop (h ((ld + ps.length) % 4)))) = true) (W : World) (hzW : Byt W a ps.length ps) (hlW : Byt W la ln.length ln) => show Calls Tryd.prog 59 #[.agg (posA h tr ld (.slice a ps.length cap)), .int .u8 (sd : Int), .slice la ln.length lcap, .bool false] W fun e w' => e = .returned (.int .i64 (V.1 : Int)) ∧ Below W.heap.size W w' from by
    rw [← hV]
    unfold sureV
    rw [if_neg (by rw [hok]; decide)]
    rw [Bool.and_eq_true] at hok
    obtain ⟨hp, ht⟩ := PosT.of hw hok.1
    exact cr_least sd tr false ln htr (claim_parts hok.2).1 _ _ ⟨h, ld, ps⟩ hp (pos_len hp) (hq4 hok.1) a cap la ln.length lcap W hzW hlW)
  have HV2 : Hid (((rightB h tr ld ps && claimB sd tk ln (pop (h ((ld + ps.length) % 4)))) = false → V = (0, 2)) ∧ ((rightB h tr ld ps && claimB sd tk ln (pop (h ((ld + ps.length) % 4)))) = true → V.2 = 0)) := Lib.hid ⟨fun h => by rw [← hV]; exact if_pos h, fun h => by rw [← hV]; unfold sureV; rw [if_neg (by rw [h]; decide)]⟩
  rw [hV]
  obtain ⟨ok, hok⟩ : ∃ z, (rightB h tr ld ps && claimB sd tk ln (pop (h ((ld + ps.length) % 4)))) = z := ⟨_, rfl⟩
  rw [hok] at HRI HOK HV2
  obtain ⟨PA, hPA⟩ : ∃ A, posA h tr ld (.slice a ps.length cap) = A := ⟨_, rfl⟩
  have HPZ : Hid (PA.size = 7) := Lib.hid (by rw [← hPA]; rfl)
  obtain ⟨nl, hnl⟩ : ∃ z, ln.length = z := ⟨_, rfl⟩
  rw [hPA] at HRI HB HR HC HY HLY HOK ⊢
  rw [hnl] at HRI HB HR HC HY HLY HOK ⊢
  obtain ⟨CA, hCA⟩ : ∃ A, cmA sd tk (.slice la nl lcap) = A := ⟨_, rfl⟩
  have HCZ : Hid (CA.size = 3) := Lib.hid (by rw [← hCA]; rfl)
  rw [hCA] at HRI HB HR HC HY HLY  ⊢
  have HC0 : Hid (CA[0]? = some (.int .u8 (sd : Int)) ∧ CA[1]? = some (.int .i64 tk) ∧ CA[2]? = some (.slice la nl lcap)) := Lib.hid (by rw [← hCA]; exact ⟨rfl, rfl, rfl⟩)
  clear hPA hCA hz hl hV hnl hok hq4
  go_enter Tryd.func30, Tryd.ntmps30
  go_upto_region 1 with fail
  generalize (w.alloc (.cells PA 62)).alloc (.cells CA 64) = wa at *
  obtain ⟨b1, hb1⟩ : ∃ b, w.heap.size = b := ⟨_, rfl⟩
  have HB1 := Lib.hid hb1
  rw [hb1] at HR HC ⊢
  clear hb1
  obtain ⟨b3, hb3⟩ : ∃ b, b1 + 1 = b := ⟨_, rfl⟩
  rw [hb3] at HC ⊢
  clear hb3
  go_wp2_with (first
    | refine wpList_load_row rfl 62 (.tmp 2) rfl b1 rfl 62 PA (0, 0) _ HR.out Tryd.underlying62 rfl (by rw [HPZ.out]; exact size_rpos) ?_
    | refine wpList_load_row rfl 64 (.tmp 3) rfl b3 rfl 64 CA (0, 0) _ HC.out Tryd.underlying64 rfl (by rw [HCZ.out]; exact size_rcl) ?_)
  refine HRI.out.mono ?_
  rintro e w2 ⟨rfl, hb2⟩
  have HR2 := Lib.hid (HR.out.later hb2)
  have HC2 := Lib.hid (HC.out.later hb2)
  have HY2 := Lib.hid (HY.out.below (Nat.le_refl _) hb2)
  have HLY2 := Lib.hid (HLY.out.below (Nat.le_refl _) hb2)
  have HB2 := Lib.hid (HB.out.trans (hb2.mono HB.out.size))
  clear hb2 HR HC HY HLY HB HRI
  cases ok
  · have HV0 := Lib.hid (HV2.out.1 rfl)
    go_wp2_with fail
    go_ret2
    exact ⟨by rw [HV0.out]; rfl, HB2.out⟩
  · have HV0 := Lib.hid (HV2.out.2 rfl)
    have HLS := Lib.hid (HOK.out rfl)
    have e0 : w2.cell? ⟨b3, 0, none⟩ = some (.int .u8 (sd : Int)) := (HC2.out.cell 0).trans HC0.out.1
    have e2 : w2.cell? ⟨b3, 2, none⟩ = some (.slice la nl lcap) := (HC2.out.cell 2).trans HC0.out.2.2
    go_wp2_with (refine wpList_load_row rfl 62 (.tmp 2) rfl b1 rfl 62 PA (0, 0) _ HR2.out Tryd.underlying62 rfl (by rw [HPZ.out]; exact size_rpos) ?_)
    refine (HLS.out w2 HY2.out HLY2.out).mono ?_
    rintro e w4 ⟨rfl, hb2⟩
    have HB4 := Lib.hid (HB2.out.trans (hb2.mono HB2.out.size))
    clear hb2 e0 e2
    go_wp2_with fail
    go_ret2
    exact ⟨by rw [HV0.out]; rfl, HB4.out⟩
set_option maxHeartbeats 2000000 in
set_option maxRecDepth 10000 in
theorem cr_Must (h : Nat → Nat) (tr ld : Nat) (ps : List Nat) (a : Option Addr) (cap sd : Nat) (hw : ∀ s, W64 (h s)) (htr : tr < 256) (hld : ld < 256) (hsd : sd < 256) (w : World) (hz : Byt w a ps.length ps) (hq4 : rightB h tr ld ps = true → pop (h ((ld + ps.length) % 4)) ≤ 4) :
    Calls Tryd.prog 31 #[.agg (posA h tr ld (.slice a ps.length cap)), .int .u8 (sd : Int)] w fun e w' => e = .returned (.tuple #[.int .i64 ((mustV h tr ld ps sd).1 : Int), .int .i64 ((mustV h tr ld ps sd).2 : Int)]) ∧ Below w.heap.size w w' := by
  have hb1 := (Below.refl w.heap.size w).alloc (Nat.le_refl _) (.cells (posA h tr ld (.slice a ps.length cap)) 62)
  have HRI := Lib.hid (cr_Right h tr ld ps a cap sd 0 [] none 0 hw htr hld hsd _ (hz.below (Nat.le_refl _) hb1) (ch_nil _))
  have HB := Lib.hid hb1
  have HR := Lib.hid (Row.new w 62 (posA h tr ld (.slice a ps.length cap)))
  have HY := Lib.hid (hz.below (Nat.le_refl _) hb1)
  clear hb1
  have hcl : claimB sd 0 [] (pop (h ((ld + ps.length) % 4))) = decide (sd < 2) := by
    unfold claimB
    simp [playOk]
    omega
  rw [hcl] at HRI
  obtain ⟨V, hV⟩ : ∃ V, mustV h tr ld ps sd = V := ⟨_, rfl⟩
  obtain ⟨ok, hok⟩ : ∃ z, (rightB h tr ld ps && decide (sd < 2)) = z := ⟨_, rfl⟩
  have HV2 : Hid (ok = false → V = (0, 2)) := Lib.hid (fun h0 => by
    rw [← hV]
    refine if_pos ?_
    rw [h0] at hok
    rw [Bool.and_eq_false_iff] at hok
    rcases hok with h | h
    · exact .inl h
    · exact .inr (by simpa using h))
  have hparts : ok = true → rightB h tr ld ps = true ∧ sd < 2 := fun h0 => by
    rw [h0, Bool.and_eq_true, decide_eq_true_eq] at hok
    exact hok
  have HOK := Lib.hid (fun (h0 : ok = true) (W : World) (hzW : Byt W a ps.length ps) => show Calls Tryd.prog 59 #[.agg (posA h tr ld (.slice a ps.length cap)), .int .u8 (sd : Int), .slice none 0 0, .bool true] W fun e w' => e = .returned (.int .i64 (V.1 : Int)) ∧ Below W.heap.size W w' from by
    obtain ⟨hr, hs⟩ := hparts h0
    rw [← hV]
    unfold mustV
    rw [if_neg (not_bad hr hs)]
    obtain ⟨hp, ht⟩ := PosT.of hw hr
    exact cr_least sd tr true [] htr hs _ _ ⟨h, ld, ps⟩ hp (pos_len hp) (hq4 hr) a cap none 0 0 W hzW (ch_nil W))
  have HV3 : Hid (ok = true → V.2 = 0) := Lib.hid (fun h0 => by
    obtain ⟨hr, hs⟩ := hparts h0
    rw [← hV]
    unfold mustV
    rw [if_neg (not_bad hr hs)])
  rw [hok] at HRI
  rw [hV]
  obtain ⟨PA, hPA⟩ : ∃ A, posA h tr ld (.slice a ps.length cap) = A := ⟨_, rfl⟩
  have HPZ : Hid (PA.size = 7) := Lib.hid (by rw [← hPA]; rfl)
  rw [hPA] at HRI HB HR HY HOK ⊢
  have hbc : ∀ W, (Instr.build 64 #[(0, .int .u8 (sd : Int))]).run Tryd.prog W = .ok (.agg #[.int .u8 (sd : Int), .int .i64 0, .slice none 0 0]) W := fun W => by kernel_rfl
  unfold cmA at HRI
  simp only [List.length_nil] at HRI
  clear hPA hz hV hok hq4 hcl hparts
  go_enter Tryd.func31, Tryd.ntmps31
  go_upto_region 1 with fail
  generalize w.alloc (.cells PA 62) = wa at *
  obtain ⟨b1, hb1⟩ : ∃ b, w.heap.size = b := ⟨_, rfl⟩
  have HB1 := Lib.hid hb1
  rw [hb1] at HR ⊢
  clear hb1
  go_wp2_with (refine wpList_load_row rfl 62 (.tmp 2) rfl b1 rfl 62 PA (0, 0) _ HR.out Tryd.underlying62 rfl (by rw [HPZ.out]; exact size_rpos) ?_)
  refine HRI.out.mono ?_
  rintro e w2 ⟨rfl, hb2⟩
  have HR2 := Lib.hid (HR.out.later hb2)
  have HY2 := Lib.hid (HY.out.below (Nat.le_refl _) hb2)
  have HB2 := Lib.hid (HB.out.trans (hb2.mono HB.out.size))
  clear hb2 HR HY HB HRI hbc
  cases ok
  · have HV0 := Lib.hid (HV2.out rfl)
    go_wp2_with fail
    go_ret2
    exact ⟨by rw [HV0.out]; rfl, HB2.out⟩
  · have HV0 := Lib.hid (HV3.out rfl)
    have HLS := Lib.hid (HOK.out rfl)
    go_wp2_with (refine wpList_load_row rfl 62 (.tmp 2) rfl b1 rfl 62 PA (0, 0) _ HR2.out Tryd.underlying62 rfl (by rw [HPZ.out]; exact size_rpos) ?_)
    refine (HLS.out w2 HY2.out).mono ?_
    rintro e w4 ⟨rfl, hb2⟩
    have HB4 := Lib.hid (HB2.out.trans (hb2.mono HB2.out.size))
    clear hb2
    go_wp2_with fail
    go_ret2
    exact ⟨by rw [HV0.out]; rfl, HB4.out⟩
set_option maxHeartbeats 2000000 in
set_option maxRecDepth 10000 in
theorem cr_Best (h : Nat → Nat) (tr ld : Nat) (ps : List Nat) (a : Option Addr) (cap sd : Nat) (hw : ∀ s, W64 (h s)) (htr : tr < 256) (hld : ld < 256) (hsd : sd < 256) (w : World) (hz : Byt w a ps.length ps) (hq4 : rightB h tr ld ps = true → pop (h ((ld + ps.length) % 4)) ≤ 4) :
    Calls Tryd.prog 32 #[.agg (posA h tr ld (.slice a ps.length cap)), .int .u8 (sd : Int)] w fun e w' => e = .returned (.tuple #[.int .i64 ((bestVV h tr ld ps sd).1 : Int), .int .i64 ((bestVV h tr ld ps sd).2 : Int)]) ∧ Below w.heap.size w w' := by
  have hb1 := (Below.refl w.heap.size w).alloc (Nat.le_refl _) (.cells (posA h tr ld (.slice a ps.length cap)) 62)
  have HRI := Lib.hid (cr_Right h tr ld ps a cap sd 0 [] none 0 hw htr hld hsd _ (hz.below (Nat.le_refl _) hb1) (ch_nil _))
  have HB := Lib.hid hb1
  have HR := Lib.hid (Row.new w 62 (posA h tr ld (.slice a ps.length cap)))
  have HY := Lib.hid (hz.below (Nat.le_refl _) hb1)
  clear hb1
  have hcl : claimB sd 0 [] (pop (h ((ld + ps.length) % 4))) = decide (sd < 2) := by
    unfold claimB
    simp [playOk]
    omega
  rw [hcl] at HRI
  obtain ⟨V, hV⟩ : ∃ V, bestVV h tr ld ps sd = V := ⟨_, rfl⟩
  obtain ⟨ok, hok⟩ : ∃ z, (rightB h tr ld ps && decide (sd < 2)) = z := ⟨_, rfl⟩
  have HV2 : Hid (ok = false → V = (0, 2)) := Lib.hid (fun h0 => by
    rw [← hV]
    refine if_pos ?_
    rw [h0] at hok
    rw [Bool.and_eq_false_iff] at hok
    rcases hok with h | h
    · exact .inl h
    · exact .inr (by simpa using h))
  have hparts : ok = true → rightB h tr ld ps = true ∧ sd < 2 := fun h0 => by
    rw [h0, Bool.and_eq_true, decide_eq_true_eq] at hok
    exact hok
  have HLE := Lib.hid (fun W => cr_Left h tr ld ps.length a cap hw hld (by have := hz.small; omega) W)
  have HOK : Hid (ok = true → ∃ x q : Nat, x ≤ q ∧ q ≤ 4 ∧ sd < 2 ∧ V = (if sd = 1 then q - x else x, 0) ∧ cnt (h ((ld + ps.length) % 4)) 52 = q ∧ ∀ W, Byt W a ps.length ps → Calls Tryd.prog 60 #[.agg (posA h tr ld (.slice a ps.length cap))] W fun e w' => e = .returned (.int .i64 (x : Int)) ∧ Below W.heap.size W w') := Lib.hid (fun h0 => by
    obtain ⟨hr, hs⟩ := hparts h0
    obtain ⟨hp, ht⟩ := PosT.of hw hr
    refine ⟨val tr (4 * pop (h ((ld + ps.length) % 4)) - ps.length) ⟨h, ld, ps⟩, pop (h ((ld + ps.length) % 4)), val_le tr _ _ _ hp.ok.pk.2 hp.evn (pos_len hp), hq4 hr, hs, ?_, cnt_in52 (fun c hc => hp.ok.pk.1 _ (Nat.mod_lt _ (by decide)) c hc), fun W hzW => dr_Solve tr htr _ _ ⟨h, ld, ps⟩ hp (pos_len hp) a cap W hzW⟩
    rw [← hV]
    unfold bestVV bestV
    rw [if_neg (not_bad hr hs)])
  rw [hok] at HRI
  rw [hV]
  obtain ⟨PA, hPA⟩ : ∃ A, posA h tr ld (.slice a ps.length cap) = A := ⟨_, rfl⟩
  have HPZ : Hid (PA.size = 7) := Lib.hid (by rw [← hPA]; rfl)
  rw [hPA] at HRI HB HR HY HOK HLE ⊢
  have hbc : ∀ W, (Instr.build 64 #[(0, .int .u8 (sd : Int))]).run Tryd.prog W = .ok (.agg #[.int .u8 (sd : Int), .int .i64 0, .slice none 0 0]) W := fun W => by kernel_rfl
  unfold cmA at HRI
  simp only [List.length_nil] at HRI
  clear hPA hz hV hok hq4 hcl hparts
  go_enter Tryd.func32, Tryd.ntmps32
  go_upto_region 1 with fail
  generalize w.alloc (.cells PA 62) = wa at *
  obtain ⟨b1, hb1⟩ : ∃ b, w.heap.size = b := ⟨_, rfl⟩
  have HB1 := Lib.hid hb1
  rw [hb1] at HR ⊢
  clear hb1
  go_wp2_with (refine wpList_load_row rfl 62 (.tmp 2) rfl b1 rfl 62 PA (0, 0) _ HR.out Tryd.underlying62 rfl (by rw [HPZ.out]; exact size_rpos) ?_)
  refine HRI.out.mono ?_
  rintro e w2 ⟨rfl, hb2⟩
  have HR2 := Lib.hid (HR.out.later hb2)
  have HY2 := Lib.hid (HY.out.below (Nat.le_refl _) hb2)
  have HB2 := Lib.hid (HB.out.trans (hb2.mono HB.out.size))
  clear hb2 HR HY HB HRI hbc
  cases ok
  · have HV0 := Lib.hid (HV2.out rfl)
    go_wp2_with fail
    go_ret2
    exact ⟨by rw [HV0.out]; rfl, HB2.out⟩
  · obtain ⟨x, q, hxq, hq4, hs2, hVE, hcn, hso⟩ := HOK.out rfl
    have HSO := Lib.hid (hso w2 HY2.out)
    rw [hcn] at HLE
    have HVE := Lib.hid hVE
    clear hVE hcn hso HOK
    go_wp2_with (refine wpList_load_row rfl 62 (.tmp 2) rfl b1 rfl 62 PA (0, 0) _ HR2.out Tryd.underlying62 rfl (by rw [HPZ.out]; exact size_rpos) ?_)
    refine HSO.out.mono ?_
    rintro e w4 ⟨rfl, hb2⟩
    have HR4 := Lib.hid (HR2.out.later hb2)
    have HB4 := Lib.hid (HB2.out.trans (hb2.mono HB2.out.size))
    clear hb2 HR2 HY2 HB2 HSO
    rcases (show sd = 0 ∨ sd = 1 by omega) with rfl | rfl
    · have HF : Hid (V = (x, 0)) := Lib.hid HVE.out
      go_wp2_with fail
      go_ret2
      exact ⟨by rw [HF.out]; rfl, HB4.out⟩
    · have HF : Hid (V = (q - x, 0)) := Lib.hid HVE.out
      obtain ⟨d, hd⟩ : ∃ d, q - x = d := ⟨_, rfl⟩
      rw [hd] at HF
      have hdI : (q : Int) - (x : Int) = (d : Int) := by omega
      go_wp2_with (refine wpList_load_row rfl 62 (.tmp 2) rfl b1 rfl 62 PA (0, 0) _ HR4.out Tryd.underlying62 rfl (by rw [HPZ.out]; exact size_rpos) ?_)
      refine (HLE.out w4).mono ?_
      rintro e w5 ⟨rfl, hb2⟩
      have HB5 := Lib.hid (HB4.out.trans (hb2.mono HB4.out.size))
      clear hb2 hd
      go_wp2_with fail
      go_ret2
      exact ⟨by rw [HF.out]; rfl, HB5.out⟩
set_option maxHeartbeats 2000000 in
set_option maxRecDepth 10000 in
theorem cr_Award (h : Nat → Nat) (tr ld : Nat) (ps : List Nat) (a : Option Addr) (cap sd : Nat) (tk : Int) (ln : List Nat) (la : Option Addr) (lcap : Nat) (hw : ∀ s, W64 (h s)) (htr : tr < 256) (hld : ld < 256) (hsd : sd < 256) (w : World) (hz : Byt w a ps.length ps) (hl : Byt w la ln.length ln) (hq4 : rightB h tr ld ps = true → pop (h ((ld + ps.length) % 4)) ≤ 4) :
    Calls Tryd.prog 33 #[.agg (posA h tr ld (.slice a ps.length cap)), .agg (cmA sd tk (.slice la ln.length lcap))] w fun e w' => e = .returned (.tuple #[.int .i64 (awardV h tr ld ps sd tk ln).1, .int .i64 ((awardV h tr ld ps sd tk ln).2 : Int)]) ∧ Below w.heap.size w w' := by
  have hb1 := (Below.refl w.heap.size w).alloc (Nat.le_refl _) (.cells (posA h tr ld (.slice a ps.length cap)) 62)
  have hb2 := hb1.alloc hb1.size (.cells (cmA sd tk (.slice la ln.length lcap)) 64)
  have HRI := Lib.hid (cr_Sure h tr ld ps a cap sd tk ln la lcap hw htr hld hsd _ (hz.below (Nat.le_refl _) hb2) (hl.below (Nat.le_refl _) hb2) hq4)
  have HB := Lib.hid hb2
  have HR := Lib.hid ((Row.new w 62 (posA h tr ld (.slice a ps.length cap))).alloc (.cells (cmA sd tk (.slice la ln.length lcap)) 64))
  have HC := Lib.hid (Row.new (w.alloc (.cells (posA h tr ld (.slice a ps.length cap)) 62)) 64 (cmA sd tk (.slice la ln.length lcap)))
  have HY := Lib.hid (hz.below (Nat.le_refl _) hb2)
  have HLY := Lib.hid (hl.below (Nat.le_refl _) hb2)
  have hsz : (w.alloc (.cells (posA h tr ld (.slice a ps.length cap)) 62)).heap.size = w.heap.size + 1 := by simp
  rw [hsz] at HC
  clear hb1 hb2 hsz
  have HMU := Lib.hid (fun W hzW => cr_Must h tr ld ps a cap sd hw htr hld hsd W hzW hq4)
  obtain ⟨V, hV⟩ : ∃ V, awardV h tr ld ps sd tk ln = V := ⟨_, rfl⟩
  obtain ⟨ok, hok⟩ : ∃ z, (rightB h tr ld ps && claimB sd tk ln (pop (h ((ld + ps.length) % 4)))) = z := ⟨_, rfl⟩
  have HV2 : Hid (ok = false → V = (0, 2) ∧ sureV h tr ld ps sd tk ln = (0, 2)) := Lib.hid fun h0 => ⟨by rw [← hV]; exact if_pos (hok.trans h0), if_pos (hok.trans h0)⟩
  have HV3 : Hid (ok = true → V = (max ((mustV h tr ld ps sd).1 : Int) (min ((sureV h tr ld ps sd tk ln).1 : Int) tk), 0) ∧ (sureV h tr ld ps sd tk ln).2 = 0 ∧ (sureV h tr ld ps sd tk ln).1 ≤ 4 ∧ (mustV h tr ld ps sd).1 ≤ 4 ∧ 0 ≤ tk ∧ tk ≤ 4) := Lib.hid fun h0 => by
    have hne : ¬ (rightB h tr ld ps && claimB sd tk ln (pop (h ((ld + ps.length) % 4)))) = false := by rw [hok, h0]; decide
    have hok2 : (rightB h tr ld ps && claimB sd tk ln (pop (h ((ld + ps.length) % 4)))) = true := hok.trans h0
    rw [Bool.and_eq_true] at hok2
    obtain ⟨hr, hc⟩ := hok2
    obtain ⟨hs2, h1, h2, -, -⟩ := claim_parts hc
    obtain ⟨hp, -⟩ := PosT.of hw hr
    have h4 := hq4 hr
    have hm1 := mn_le (sd := sd) (tr := tr) (line := ln) (fr := false) _ _ _ hp.ok.pk hp.evn (pos_len hp)
    have hm2 := mn_le (sd := sd) (tr := tr) (line := []) (fr := true) _ _ _ hp.ok.pk hp.evn (pos_len hp)
    refine ⟨by rw [← hV]; exact if_neg hne, by unfold sureV; rw [if_neg hne], by unfold sureV; rw [if_neg hne]; exact Nat.le_trans hm1 h4, by unfold mustV; rw [if_neg (not_bad hr hs2)]; exact Nat.le_trans hm2 h4, h1, by omega⟩
  obtain ⟨S, hS⟩ : ∃ z, sureV h tr ld ps sd tk ln = z := ⟨_, rfl⟩
  obtain ⟨Mu, hMu⟩ : ∃ z, mustV h tr ld ps sd = z := ⟨_, rfl⟩
  rw [hS] at HRI HV2 HV3
  rw [hMu] at HMU HV3
  rw [hV]
  obtain ⟨x, xe⟩ := S
  obtain ⟨y, ye⟩ := Mu
  dsimp only at HRI HMU HV2 HV3
  obtain ⟨PA, hPA⟩ : ∃ A, posA h tr ld (.slice a ps.length cap) = A := ⟨_, rfl⟩
  have HPZ : Hid (PA.size = 7) := Lib.hid (by rw [← hPA]; rfl)
  obtain ⟨nl, hnl⟩ : ∃ z, ln.length = z := ⟨_, rfl⟩
  rw [hPA] at HRI HB HR HC HY HLY HMU ⊢
  rw [hnl] at HRI HB HR HC HY HLY  ⊢
  obtain ⟨CA, hCA⟩ : ∃ A, cmA sd tk (.slice la nl lcap) = A := ⟨_, rfl⟩
  have HCZ : Hid (CA.size = 3) := Lib.hid (by rw [← hCA]; rfl)
  rw [hCA] at HRI HB HR HC HY HLY  ⊢
  have HC0 : Hid (CA[0]? = some (.int .u8 (sd : Int)) ∧ CA[1]? = some (.int .i64 tk) ∧ CA[2]? = some (.slice la nl lcap)) := Lib.hid (by rw [← hCA]; exact ⟨rfl, rfl, rfl⟩)
  clear hPA hCA hz hl hV hnl hok hq4
  go_enter Tryd.func33, Tryd.ntmps33
  go_upto_region 1 with fail
  generalize (w.alloc (.cells PA 62)).alloc (.cells CA 64) = wa at *
  obtain ⟨b1, hb1⟩ : ∃ b, w.heap.size = b := ⟨_, rfl⟩
  have HB1 := Lib.hid hb1
  rw [hb1] at HR HC ⊢
  clear hb1
  obtain ⟨b3, hb3⟩ : ∃ b, b1 + 1 = b := ⟨_, rfl⟩
  rw [hb3] at HC ⊢
  clear hb3
  go_wp2_with (first
    | refine wpList_load_row rfl 62 (.tmp 2) rfl b1 rfl 62 PA (0, 0) _ HR.out Tryd.underlying62 rfl (by rw [HPZ.out]; exact size_rpos) ?_
    | refine wpList_load_row rfl 64 (.tmp 3) rfl b3 rfl 64 CA (0, 0) _ HC.out Tryd.underlying64 rfl (by rw [HCZ.out]; exact size_rcl) ?_)
  refine HRI.out.mono ?_
  rintro e w2 ⟨rfl, hb2⟩
  have HR2 := Lib.hid (HR.out.later hb2)
  have HC2 := Lib.hid (HC.out.later hb2)
  have HY2 := Lib.hid (HY.out.below (Nat.le_refl _) hb2)
  have HLY2 := Lib.hid (HLY.out.below (Nat.le_refl _) hb2)
  have HB2 := Lib.hid (HB.out.trans (hb2.mono HB.out.size))
  clear hb2 HR HC HY HLY HB HRI
  cases ok
  · have HV0 := Lib.hid (HV2.out rfl).1
    obtain ⟨rfl, rfl⟩ : x = 0 ∧ xe = 2 := by have := (HV2.out rfl).2; injection this with h1 h2; exact ⟨h1, h2⟩
    go_wp2_with fail
    go_ret2
    exact ⟨by rw [HV0.out]; rfl, HB2.out⟩
  · obtain ⟨hVE, rfl, hx4, hy4, ht0, ht4⟩ := HV3.out rfl
    have HVE := Lib.hid hVE
    have e0 : w2.cell? ⟨b3, 0, none⟩ = some (.int .u8 (sd : Int)) := (HC2.out.cell 0).trans HC0.out.1
    clear hVE HV2 HV3
    go_wp2_with (refine wpList_load_row rfl 62 (.tmp 2) rfl b1 rfl 62 PA (0, 0) _ HR2.out Tryd.underlying62 rfl (by rw [HPZ.out]; exact size_rpos) ?_)
    refine (HMU.out w2 HY2.out).mono ?_
    rintro e w4 ⟨rfl, hb2⟩
    have HB4 := Lib.hid (HB2.out.trans (hb2.mono HB2.out.size))
    have e1 : w4.cell? ⟨b3, 1, none⟩ = some (.int .i64 tk) := ((HC2.out.later hb2).cell 1).trans HC0.out.2.1
    clear hb2 e0 HR2 HY2 HB2 HMU
    rcases Int.lt_or_le (x : Int) tk with h1 | h1
    · rcases Nat.lt_or_ge x y with h2 | h2
      · have HF : Hid (V = ((y : Int), 0)) := Lib.hid (HVE.out.trans (by rw [show max (y : Int) (min (x : Int) tk) = (y : Int) by omega]))
        have d1 : decide ((x : Int) < tk) = true := by simp; omega
        have d2 : decide (x < y) = true := by simp; omega
        clear h1 h2
        go_wp2_with fail
        go_ret2
        exact ⟨by rw [HF.out]; rfl, HB4.out⟩
      · have HF : Hid (V = ((x : Int), 0)) := Lib.hid (HVE.out.trans (by rw [show max (y : Int) (min (x : Int) tk) = (x : Int) by omega]))
        have d1 : decide ((x : Int) < tk) = true := by simp; omega
        have d2 : decide (x < y) = false := by simp; omega
        clear h1 h2
        go_wp2_with fail
        go_ret2
        exact ⟨by rw [HF.out]; rfl, HB4.out⟩
    · rcases Int.lt_or_le tk (y : Int) with h2 | h2
      · have HF : Hid (V = ((y : Int), 0)) := Lib.hid (HVE.out.trans (by rw [show max (y : Int) (min (x : Int) tk) = (y : Int) by omega]))
        have d1 : decide ((x : Int) < tk) = false := by simp; omega
        have d2 : decide (tk < (y : Int)) = true := by simp; omega
        clear h1 h2
        go_wp2_with fail
        go_ret2
        exact ⟨by rw [HF.out]; rfl, HB4.out⟩
      · have HF : Hid (V = (tk, 0)) := Lib.hid (HVE.out.trans (by rw [show max (y : Int) (min (x : Int) tk) = tk by omega]))
        have d1 : decide ((x : Int) < tk) = false := by simp; omega
        have d2 : decide (tk < (y : Int)) = false := by simp; omega
        clear h1 h2
        go_wp2_with fail
        go_ret2
        exact ⟨by rw [HF.out]; rfl, HB4.out⟩
end Go.Proofs.YtnbillhodbcfbaaDoor
