/- DummyTurned over this seat's program. -/
import Derived.Test.YtpobcaopfeddgaaDoorDmRa
import Derived.Test.YtpobcaopfeddgaaDoorMDqa
import Derived.Test.YtpobcaopfeddgaaDoorDmAw
namespace Go.Proofs.YtpobcaopfeddgaaDoor
open Go.RowKit Go.Sort Go.Shelf Go.Maps Go.WideMaps

/-- the first i hands passed on by k -/
def rotH (h : Nat → Nat) (k i : Nat) (j : Nat) : Nat := if (j + 4 - k) % 4 < i then h ((j + 4 - k) % 4) else 0
theorem posA_rot (h : Nat → Nat) {k i : Nat} (hk : 1 ≤ k) (hk4 : k < 4) (hi : i < 4) (tr ld : Nat) (v : Value) : (posA (rotH h k i) tr ld v).setIfInBounds ((i + k) % 4) (.int .u64 (h i : Int)) = posA (rotH h k (i + 1)) tr ld v := by
  unfold posA rotH
  rcases (show i = 0 ∨ i = 1 ∨ i = 2 ∨ i = 3 by omega) with rfl | rfl | rfl | rfl <;> rcases (show k = 1 ∨ k = 2 ∨ k = 3 by omega) with rfl | rfl | rfl <;> simp
theorem rotH_dealt {h : Nat → Nat} {q k : Nat} (H : DealtP h q) (hk4 : k < 4) : DealtP (rotH h k 4) q := by
  have e : ∀ j, rotH h k 4 j = h ((j + 4 - k) % 4) := fun j => by unfold rotH; rw [if_pos (Nat.mod_lt _ (by decide))]
  refine ⟨fun s => by rw [e]; exact H.w64 _, fun s hs c hc => ?_, fun s s' c hs hs' h1 h2 => ?_, fun i hi => by rw [e]; exact H.pops _ (Nat.mod_lt _ (by decide))⟩
  · rw [e] at hc
    exact H.in52 _ (Nat.mod_lt _ (by decide)) c hc
  · rw [e] at h1 h2
    have := H.apart _ _ c (Nat.mod_lt _ (by decide)) (Nat.mod_lt _ (by decide)) h1 h2
    omega
theorem rotH_rot (h : Nat → Nat) {k ld : Nat} (hk4 : k < 4) : Rot k ⟨h, ld, []⟩ ⟨rotH h k 4, (ld + k) % 4, []⟩ :=
  ⟨rfl, rfl, fun s hs => by
    show rotH h k 4 ((s + k) % 4) = h s
    unfold rotH
    have : ((s + k) % 4 + 4 - k) % 4 = s := by omega
    rw [this, if_pos hs]⟩
theorem DealtP.tb {h : Nat → Nat} {q : Nat} (H : DealtP h q) (hq : q ≤ 6) {ld : Nat} (hl : ld ≤ 3) : TbOk ⟨h, ld, []⟩ ∧ Uniq ⟨h, ld, []⟩ ∧ Evn q ⟨h, ld, []⟩ := by
  have h1 := right_of H.w64 (H.right hq (tr := 0) (by omega) hl)
  rw [H.turn] at h1
  exact ⟨h1.ok, h1.uniq, h1.evn⟩
set_option maxHeartbeats 4000000 in
set_option maxRecDepth 10000 in
theorem law_DummyTurned (a : Option Addr) (len cap : Nat) (zs : List Nat) (n tr ld : Nat) (w : World) (hz : Byt w a len zs) (hn : n < 256) (htr : tr < 256) (hld : ld < 256) (hT : Tab w) :
    Calls Tryd.prog 5 #[.slice a len cap, .int .u8 (n : Int), .int .u8 (tr : Int), .int .u8 (ld : Int)] w fun e w' => e = .returned (.bool true) ∧ Below w.heap.size w w' := by
  have HT := Lib.hid hT
  have HDE := Lib.hid (dm_Dealt a len cap zs n tr ld 4 hn htr hld (Nat.le_refl _) w hz)
  have hq4 : n % (4 + 1) ≤ 4 := by omega
  have ht5 : tr % 5 < 5 := by omega
  have hl4 : ld % 4 < 4 := by omega
  obtain ⟨q, hq⟩ : ∃ q, n % (4 + 1) = q := ⟨_, rfl⟩
  obtain ⟨t5, htt⟩ : ∃ q, tr % 5 = q := ⟨_, rfl⟩
  obtain ⟨l4, hll⟩ : ∃ q, ld % 4 = q := ⟨_, rfl⟩
  rw [hq, htt, hll] at HDE
  rw [hq] at hq4
  rw [htt] at ht5
  rw [hll] at hl4
  simp only [show ((4 : Nat) : Int) = 4 from rfl] at HDE
  clear hq htt hll hz hT
  go_enter Tryd.func5, Tryd.ntmps5
  go_wp2_with fail
  refine HDE.out.mono ?_
  rintro e w1 ⟨h, hD, rfl, hb1⟩
  have HD := Lib.hid hD
  have HPZ : Hid ((posA h t5 l4 (.slice none 0 0)).size = 7 ∧ (posA h t5 l4 (.slice none 0 0)).all (·.oneCell') = true) := Lib.hid ⟨rfl, by simp [posA, Value.oneCell']⟩
  have HPC : Hid (∀ s, s < 4 → (posA h t5 l4 (.slice none 0 0))[s]? = some (.int .u64 (h s : Int))) := Lib.hid fun s hs => posA_h _ _ _ _ hs
  have HP45 : Hid ((posA h t5 l4 (.slice none 0 0))[4]? = some (.int .u8 (t5 : Int)) ∧ (posA h t5 l4 (.slice none 0 0))[5]? = some (.int .u8 (l4 : Int))) := Lib.hid ⟨rfl, rfl⟩
  have HLE := Lib.hid (fun W => dm_Left_ok h t5 l4 [] none 0 hD.w64 (by omega) (by omega) W (byt_nil W) (hD.right (by omega) (by omega) (by omega)))
  have HSO := Lib.hid (fun W (hT : Tab W) => dm_Solve_ok h t5 l4 [] none 0 hD.w64 (by omega) (by omega) W (byt_nil W) hT q (hD.turn l4) hq4 (hD.right (by omega) (by omega) (by omega)))
  rw [hD.turn] at HLE
  have HVL := Lib.hid (val_le t5 (4 * q) q ⟨h, l4, []⟩ (by simp) (hD.tb (by omega) (by omega)).2.2 (by simp))
  obtain ⟨V, hV⟩ : ∃ V, val t5 (4 * q - ([] : List Nat).length) ⟨h, l4, []⟩ = V := ⟨_, rfl⟩
  have hV2 : val t5 (4 * q) ⟨h, l4, []⟩ = V := hV
  have HV := Lib.hid hV2
  rw [hV] at HSO
  rw [hV2] at HVL
  obtain ⟨PA, hPA⟩ : ∃ A, posA h t5 l4 (.slice none 0 0) = A := ⟨_, rfl⟩
  have HPA := Lib.hid hPA
  have hPA' : posA h t5 l4 (.slice none ([] : List Nat).length 0) = PA := hPA
  rw [hPA] at HPZ HPC HP45 ⊢
  rw [hPA'] at HLE HSO
  have HN := Lib.hid (Row.new w1 27 zeroP)
  have ha := below_setRow ((Below.refl w1.heap.size w1).alloc (Nat.le_refl _) (.cells zeroP 27)) (Nat.le_refl _) PA
  have hr : Row ((w1.alloc (.cells zeroP 27)).setRow w1.heap.size PA) w1.heap.size 27 PA := setRow_heap _ _ _ _ _ _ HN.out
  have HR := Lib.hid hr
  have HB := Lib.hid (hb1.trans (ha.mono hb1.size))
  have HT2 := Lib.hid (HT.out.below HT.out.pos HB.out)
  clear hb1 ha hr hPA hPA' hV hV2 hD
  go_upto_region 2 with (refine wpList_store_row rfl 27 (.tmp 9) (.tmp 25) rfl w1.heap.size PA rfl rfl 27 _ HN.out (by rw [HPZ.out.1]; exact size_pos) (by rw [HPZ.out.1]; rfl) HPZ.out.2 ?_)
  try dsimp only [Act.put]
  generalize (w1.alloc (.cells zeroP 27)).setRow w1.heap.size PA = w2 at *
  obtain ⟨b9, hb9⟩ : ∃ b, w1.heap.size = b := ⟨_, rfl⟩
  rw [hb9] at HR ⊢
  clear hb9
  go_wp2_with (refine wpList_load_row rfl 27 (.tmp 9) rfl b9 rfl 27 PA (0, 0) _ HR.out Tryd.underlying27 rfl (by rw [HPZ.out.1]; exact size_pos) ?_)
  refine (HLE.out _).mono ?_
  rintro e w3 ⟨rfl, hb3⟩
  have HR3 := Lib.hid (HR.out.later hb3)
  have HB3 := Lib.hid (HB.out.trans (hb3.mono HB.out.size))
  have HT3 := Lib.hid (HT2.out.below HT2.out.pos hb3)
  clear hb3
  go_wp2_with (refine wpList_load_row rfl 27 (.tmp 9) rfl b9 rfl 27 PA (0, 0) _ HR3.out Tryd.underlying27 rfl (by rw [HPZ.out.1]; exact size_pos) ?_)
  refine (HSO.out _ HT3.out).mono ?_
  rintro e w4 ⟨rfl, hb4⟩
  have HR4 := Lib.hid (HR3.out.later hb4)
  have HB4 := Lib.hid (HB3.out.trans (hb4.mono HB3.out.size))
  have HT4 := Lib.hid (HT3.out.below HT3.out.pos hb4)
  clear hb4
  have HQ4 := Lib.hid hq4
  have HTL := Lib.hid (And.intro ht5 hl4)
  have hvq := HVL.out
  go_wp2_with fail
  clear ht5 hl4
  go_loopw [15] (fun i wr => ∃ k : Nat, 1 ≤ k ∧ k ≤ 4 ∧ i = .int .i64 (k : Int) ∧ Below w4.heap.size w4 wr) (fun i _ => 4 - (intOf i).toNat)
  case atStart => exact ⟨1, by omega, by omega, rfl, Below.refl _ _⟩
  case round =>
    obtain ⟨k, hk1, hk4, rfl, hB⟩ := hrel
    have HRk := Lib.hid (HR4.out.later hB)
    have HBk := Lib.hid (HB4.out.trans (hB.mono HB4.out.size))
    have HBr := Lib.hid hB
    have HTk := Lib.hid (HT4.out.below HT4.out.pos hB)
    clear hB
    by_cases hlt : k < 4
    · have hdk : decide ((k : Int) < 4) = true := by simp; omega
      have hl4 := HTL.out.2
      have c4 := (HRk.out.cell 4).trans HP45.out.1
      have c5 := (HRk.out.cell 5).trans HP45.out.2
      have c0 := (HRk.out.cell 0).trans (HPC.out 0 (by decide))
      have c1 := (HRk.out.cell 1).trans (HPC.out 1 (by decide))
      have c2 := (HRk.out.cell 2).trans (HPC.out 2 (by decide))
      have c3 := (HRk.out.cell 3).trans (HPC.out 3 (by decide))
      obtain ⟨ld2, hld2⟩ : ∃ x, (l4 + k) % 4 = x := ⟨_, rfl⟩
      have hmod : ((l4 : Int) + (k : Int)) % 4 = (ld2 : Int) := by omega
      have hld24 : ld2 < 4 := by omega
      have HLD := Lib.hid hld2
      clear hld2
      go_upto_region 8 with fail
      have HPE : Hid (posA (rotH h k 0) t5 ld2 (.slice none 0 0) = #[.int .u64 0, .int .u64 0, .int .u64 0, .int .u64 0, .int .u8 (t5 : Int), .int .u8 (ld2 : Int), .slice none 0 0]) := Lib.hid (by
        have h0 : ∀ j, rotH h k 0 j = 0 := fun j => if_neg (by omega)
        unfold posA; rw [h0, h0, h0, h0]; rfl)
      rw [← HPE.out]
      have ha := (Below.refl wr.heap.size wr).alloc (Nat.le_refl _) (.cells (posA (rotH h k 0) t5 ld2 (.slice none 0 0)) 27)
      have HRQ := Lib.hid (Row.new wr 27 (posA (rotH h k 0) t5 ld2 (.slice none 0 0)))
      have HRa := Lib.hid (HRk.out.later ha)
      have HBa := Lib.hid (HBr.out.trans (ha.mono HBr.out.size))
      have HLa := Lib.hid (show b9 < wr.heap.size ∧ w4.heap.size ≤ wr.heap.size from ⟨HRk.out.lt, HBr.out.size⟩)
      clear ha c0 c1 c2 c3 c4 c5
      obtain ⟨bq, hbq⟩ : ∃ b, wr.heap.size = b := ⟨_, rfl⟩
      rw [hbq] at HRQ HLa ⊢
      clear hbq
      generalize wr.alloc (.cells (posA (rotH h k 0) t5 ld2 (.slice none 0 0)) 27) = wa at *
      have c0 := (HRa.out.cell 0).trans (HPC.out 0 (by decide))
      have c1 := (HRa.out.cell 1).trans (HPC.out 1 (by decide))
      have c2 := (HRa.out.cell 2).trans (HPC.out 2 (by decide))
      have c3 := (HRa.out.cell 3).trans (HPC.out 3 (by decide))
      go_wp2_with fail
      clear c0 c1 c2 c3 hmod
      go_loopw [17, 18, 53] (fun _ _ i w' => ∃ j : Nat, j ≤ 4 ∧ i = .int .i64 (j : Int) ∧ Row w' bq 27 (posA (rotH h k j) t5 ld2 (.slice none 0 0)) ∧ But wa.heap.size bq wa w') (fun _ _ i _ => 4 - (intOf i).toNat)
      case atStart => exact ⟨0, by omega, rfl, HRQ.out, But.refl _ _ _⟩
      case round =>
        obtain ⟨j, hj, rfl, hrow, hbt⟩ := hrel
        have HRW := Lib.hid hrow
        have HBT := Lib.hid hbt
        by_cases hjl : j < 4
        · have hdj : decide ((j : Int) < 4) = true := by simp; omega
          have hji : (j : Int) < 4 := by omega
          have hidx := deA_ix h hjl
          have HSET := Lib.hid (posA_rot h hk1 hlt hjl t5 ld2 (.slice none 0 0))
          obtain ⟨r, hr⟩ : ∃ r, (j + k) % 4 = r := ⟨_, rfl⟩
          have hr4 : r < 4 := by omega
          have hri : (r : Int) < 4 := by omega
          have hrm : ((j : Int) + (k : Int)) % 4 = (r : Int) := by omega
          rw [hr] at HSET
          have dr : ∃ v, _ = some v := ⟨_, (hrow.cell r).trans (posA_h _ _ _ _ hr4)⟩
          obtain ⟨vr, dr⟩ := dr
          have fr := hrow.frozen r
          clear hr hrow hbt
          go_wp2_with fail
          refine ⟨⟨j + 1, by omega, by simp, ?_, HBT.out.trans (But.setCell _ _ _)⟩, by simp [intOf]; omega⟩
          rw [← HSET.out]
          exact HRW.out.set r _
        · obtain rfl : j = 4 := by omega
          simp only [show ((4 : Nat) : Int) = 4 from rfl]
          have hDk := rotH_dealt HD.out hlt
          have HSK := Lib.hid (fun W (hT : Tab W) => dm_Solve_ok (rotH h k 4) t5 ld2 [] none 0 hDk.w64 (by have := HTL.out; omega) (by omega) W (byt_nil W) hT q (hDk.turn ld2) HQ4.out (hDk.right (by have := HQ4.out; omega) (by have := HTL.out; omega) (by omega)))
          have hrv := rot_val t5 (4 * q) q _ _ (rotH_rot h (ld := l4) hlt) (HD.out.tb (by have := HQ4.out; omega) (by have := HTL.out; omega)).1 (HD.out.tb (by have := HQ4.out; omega) (by have := HTL.out; omega)).2.2 (by simp)
          rw [HLD.out, HV.out] at hrv
          have hrv2 : val t5 (4 * q - ([] : List Nat).length) ⟨rotH h k 4, ld2, []⟩ = if k % 2 = 0 then V else q - V := hrv
          rw [hrv2] at HSK
          obtain ⟨PQ, hPQ⟩ : ∃ A, posA (rotH h k 4) t5 ld2 (.slice none 0 0) = A := ⟨_, rfl⟩
          have hPQ' : posA (rotH h k 4) t5 ld2 (.slice none ([] : List Nat).length 0) = PQ := hPQ
          have HQZ : Hid (PQ.size = 7) := Lib.hid (by rw [← hPQ]; rfl)
          rw [hPQ] at HRW
          rw [hPQ'] at HSK
          have hbw : Below w4.heap.size w4 _ := ⟨hbt.os.trans HBa.out.os, hbt.tape.trans HBa.out.tape, hbt.output.trans HBa.out.output, Nat.le_trans HBa.out.size hbt.size, fun x hx => (hbt.same x (by have := HLa.out; have := HRQ.out.lt; omega) (by have := HLa.out; omega)).trans (HBa.out.block x hx)⟩
          have HBW := Lib.hid hbw
          have HTW := Lib.hid (HT4.out.below HT4.out.pos hbw)
          clear hbw hrow hbt hDk hrv hrv2 hPQ hPQ' hjl hj
          rcases (show k % 2 = 0 ∨ k % 2 = 1 by omega) with hp | hp
          · rw [if_pos hp] at HSK
            have hkp : (k : Int) % 2 = 0 := by omega
            clear hp
            go_wp2_with (refine wpList_load_row rfl 27 (.tmp 16) rfl bq rfl 27 PQ (0, 0) _ HRW.out Tryd.underlying27 rfl (by rw [HQZ.out]; exact size_pos) ?_)
            refine (HSK.out _ HTW.out).mono ?_
            rintro e w6 ⟨rfl, hb6⟩
            have HB6 := Lib.hid (HBW.out.trans (hb6.mono HBW.out.size))
            clear hb6
            go_wp2_with fail
            exact ⟨⟨k + 1, by omega, by omega, by simp, HB6.out⟩, by simp [intOf]; omega⟩
          · rw [if_neg (by omega)] at HSK
            have hkp : (k : Int) % 2 = 1 := by omega
            rw [show ((q - V : Nat) : Int) = (q : Int) - (V : Int) by omega] at HSK
            clear hp
            go_wp2_with (refine wpList_load_row rfl 27 (.tmp 16) rfl bq rfl 27 PQ (0, 0) _ HRW.out Tryd.underlying27 rfl (by rw [HQZ.out]; exact size_pos) ?_)
            refine (HSK.out _ HTW.out).mono ?_
            rintro e w6 ⟨rfl, hb6⟩
            have HB6 := Lib.hid (HBW.out.trans (hb6.mono HBW.out.size))
            clear hb6
            go_wp2_with fail
            exact ⟨⟨k + 1, by omega, by omega, by simp, HB6.out⟩, by simp [intOf]; omega⟩
    · obtain rfl : k = 4 := by omega
      simp only [show ((4 : Nat) : Int) = 4 from rfl]
      have hvd : decide (V ≤ q) = true := by simp; omega
      go_wp2_with fail
      refine (dm_awake _ HTk.out).mono ?_
      rintro e w6 ⟨rfl, hb6⟩
      have HB6 := Lib.hid (HBk.out.trans (hb6.mono HBk.out.size))
      clear hb6
      go_wp2_with fail
      go_ret
      exact ⟨rfl, HB6.out⟩
end Go.Proofs.YtpobcaopfeddgaaDoor
