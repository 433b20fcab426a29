/- DummyWrong over this seat's program. -/
import Derived.Test.YtpobcaopfeddgaaDoorDmWp
import Derived.Test.YtpobcaopfeddgaaDoorDmMa
import Derived.Deep.CutBlock
namespace Go.Proofs.YtpobcaopfeddgaaDoor
open Go.RowKit Go.Sort Go.Shelf Go.Maps Go.WideMaps

abbrev Z20 : Array Value := #[.int .i64 0, .int .i64 0, .int .i64 0, .int .i64 0, .int .i64 0, .int .i64 0, .int .i64 0, .int .i64 0, .int .i64 0, .int .i64 0, .int .i64 0, .int .i64 0, .int .i64 0, .int .i64 0, .int .i64 0, .int .i64 0, .int .i64 0, .int .i64 0, .int .i64 0, .int .i64 0]
/-- while the position is spoilt -/
structure QI (b13 b14 : Nat) (PA : Array Value) (w : World) (A : Array Value) (W : World) : Prop where
  r14 : Row W b14 27 A
  r13 : Row W b13 27 PA
  bl : Below w.heap.size w W
  tb : Tab W
theorem QI.set {b13 b14 : Nat} {PA A : Array Value} {w W : World} (H : QI b13 b14 PA w A W) (h1 : b13 ≠ b14) (h2 : w.heap.size ≤ b14) (hp : 0 < w.heap.size) (i : Nat) (v : Value) : QI b13 b14 PA w (A.setIfInBounds i v) (W.setCell ⟨b14, i, none⟩ v) :=
  ⟨H.r14.set i v, H.r13.other h1, But.below H.bl (But.setCell (B := w.heap.size) _ _ _) (Nat.le_refl _) h2, But.tab H.tb (But.setCell (B := W.heap.size) _ _ _) H.tb.pos (by omega)⟩
theorem QI.later {b13 b14 : Nat} {PA A : Array Value} {w W W' : World} (H : QI b13 b14 PA w A W) (hb : Below W.heap.size W W') : QI b13 b14 PA w A W' :=
  ⟨H.r14.later hb, H.r13.later hb, H.bl.trans (hb.mono H.bl.size), H.tb.below H.tb.pos hb⟩
theorem byt_row1 {W : World} {bp x : Nat} (h : Row W bp 5 #[.int .u8 (x : Int)]) (hx : x < 256) : Byt W (some ⟨bp, 0, none⟩) [x].length [x] :=
  ⟨rfl, by simp, (by intro i; rcases i with _ | _ <;> simp; exact hx), .inr ⟨bp, 0, rfl, h.lt, fun i hi => by
    obtain rfl : i = 0 := by simp at hi; exact hi
    exact h.cell 0⟩⟩
theorem dm_Makes_any {h : Nat → Nat} {tr ld : Nat} {ps : List Nat} {dv : Bool} (H : WrP h tr ld ps dv) : ∃ (A : Array Value) (er : Int), (A.size = 20 ∧ A.all (·.oneCell') = true) ∧ (dv = true → er = 2) ∧ ∀ W, Tab W →
    Calls Tryd.prog 23 #[.agg (deA h)] W fun e w' => e = .returned (.tuple #[.agg A, .int .i64 er]) ∧ Below W.heap.size W w' := by
  cases hr : rightB h 0 0 []
  · exact ⟨_, 2, ⟨tab_size _ _, tab_one _ _⟩, fun _ => rfl, fun W _ => dm_Makes_no h H.w64 W hr⟩
  · refine ⟨_, 0, ⟨tab_size _ _, tab_one _ _⟩, fun e => ?_, fun W hT => dm_Makes_ok h (pop (h 0)) H.w64 W hT hr rfl (H.few hr)⟩
    rw [H.deal e] at hr; cases hr
/-- what the spoilt position is -/
def Spoilt (b13 b14 : Nat) (PA : Array Value) (w : World) (dl : Value) (W : World) : Prop :=
  ∃ (dv : Bool) (h2 : Nat → Nat) (tr2 ld2 : Nat) (ps : List Nat) (ao : Option Addr) (c2 : Nat), dl = .bool dv ∧ WrP h2 tr2 ld2 ps dv ∧ QI b13 b14 PA w (posA h2 tr2 ld2 (.slice ao ps.length c2)) W ∧ Byt W ao ps.length ps
set_option maxHeartbeats 4000000 in
set_option maxRecDepth 10000 in
theorem law_DummyWrong (a : Option Addr) (len cap : Nat) (zs : List Nat) (n tr ld way card : Nat) (w : World) (hz : Byt w a len zs) (hn : n < 256) (htr : tr < 256) (hld : ld < 256) (hway : way < 256) (hcard : card < 256) (hT : Tab w) :
    Calls Tryd.prog 10 #[.slice a len cap, .int .u8 (n : Int), .int .u8 (tr : Int), .int .u8 (ld : Int), .int .u8 (way : Int), .int .u8 (card : Int)] w fun e w' => e = .returned (.bool true) ∧ Below w.heap.size w w' := by
  have HT := Lib.hid hT
  obtain ⟨n1, hn1⟩ : ∃ x, 1 + n % 4 = x := ⟨_, rfl⟩
  have HDE := Lib.hid (dm_Dealt a len cap zs n1 tr ld 4 (by omega) htr hld (by decide) w hz)
  have hni : 1 + (n : Int) % 4 = (n1 : Int) := by omega
  have hn4 : n1 ≤ 4 := by omega
  have ht5 : tr % 5 < 5 := by omega
  have hl4 : ld % 4 < 4 := by omega
  obtain ⟨q, hq⟩ : ∃ q, n1 % (4 + 1) = q := ⟨_, rfl⟩
  have HQ : Hid (0 < q ∧ q ≤ 4) := Lib.hid (by omega)
  obtain ⟨t5, htt⟩ : ∃ q, tr % 5 = q := ⟨_, rfl⟩
  obtain ⟨l4, hll⟩ : ∃ q, ld % 4 = q := ⟨_, rfl⟩
  rw [hq, htt, hll] at HDE
  rw [htt] at ht5
  rw [hll] at hl4
  have HTL := Lib.hid (And.intro ht5 hl4)
  simp only [show ((4 : Nat) : Int) = 4 from rfl] at HDE
  clear hq htt hll hz hT ht5 hl4
  go_enter Tryd.func10, Tryd.ntmps10
  go_wp2_with fail
  clear hni hn1 hn4
  refine HDE.out.mono ?_
  rintro e w1 ⟨h, hD, rfl, hb1⟩
  have HD := Lib.hid hD
  have HPZ : Hid ((posA h t5 l4 (.slice none 0 0)).size = 7 ∧ (posA h t5 l4 (.slice none 0 0)).all (·.oneCell') = true) := Lib.hid ⟨rfl, by simp [posA, Value.oneCell']⟩
  obtain ⟨PA, hPA⟩ : ∃ A, posA h t5 l4 (.slice none 0 0) = A := ⟨_, rfl⟩
  have HPA := Lib.hid hPA
  rw [hPA] at HPZ ⊢
  have HN := Lib.hid (Row.new w1 27 zeroP)
  have ha := below_setRow ((Below.refl w1.heap.size w1).alloc (Nat.le_refl _) (.cells zeroP 27)) (Nat.le_refl _) PA
  have hr : Row ((w1.alloc (.cells zeroP 27)).setRow w1.heap.size PA) w1.heap.size 27 PA := setRow_heap _ _ _ _ _ _ HN.out
  have HR := Lib.hid hr
  have HB := Lib.hid (hb1.trans (ha.mono hb1.size))
  have HT2 := Lib.hid (HT.out.below HT.out.pos HB.out)
  clear hb1 ha hr hPA hD
  go_upto_region 2 with (refine wpList_store_row rfl 27 (.tmp 13) (.tmp 44) rfl w1.heap.size PA rfl rfl 27 _ HN.out (by rw [HPZ.out.1]; exact size_pos) (by rw [HPZ.out.1]; rfl) HPZ.out.2 ?_)
  try dsimp only [Act.put]
  generalize (w1.alloc (.cells zeroP 27)).setRow w1.heap.size PA = w2 at *
  obtain ⟨b13, hb13⟩ : ∃ b, w1.heap.size = b := ⟨_, rfl⟩
  rw [hb13] at HR ⊢
  clear hb13
  have HN2 := Lib.hid (Row.new w2 27 zeroP)
  have ha := below_setRow ((Below.refl w2.heap.size w2).alloc (Nat.le_refl _) (.cells zeroP 27)) (Nat.le_refl _) PA
  have hr : Row ((w2.alloc (.cells zeroP 27)).setRow w2.heap.size PA) w2.heap.size 27 PA := setRow_heap _ _ _ _ _ _ HN2.out
  have HQ3 := Lib.hid hr
  have HR3 := Lib.hid (HR.out.later ha)
  have HB3 := Lib.hid (HB.out.trans (ha.mono HB.out.size))
  have HL3 := Lib.hid (show b13 < w2.heap.size ∧ w.heap.size ≤ w2.heap.size from ⟨HR.out.lt, HB.out.size⟩)
  clear ha hr
  go_upto_region 3 with (first
    | refine wpList_load_row rfl 27 (.tmp 13) rfl b13 rfl 27 PA (0, 0) _ HR.out Tryd.underlying27 rfl (by rw [HPZ.out.1]; exact size_pos) ?_
    | refine wpList_store_row rfl 27 (.tmp 14) (.tmp 45) rfl w2.heap.size PA rfl rfl 27 _ HN2.out (by rw [HPZ.out.1]; exact size_pos) (by rw [HPZ.out.1]; rfl) HPZ.out.2 ?_)
  try dsimp only [Act.put]
  generalize (w2.alloc (.cells zeroP 27)).setRow w2.heap.size PA = w3 at *
  obtain ⟨b14, hb14⟩ : ∃ b, w2.heap.size = b := ⟨_, rfl⟩
  rw [hb14] at HQ3 HL3 ⊢
  clear hb14
  have HQI := Lib.hid (show QI b13 b14 PA w (posA h t5 l4 (.slice none 0 0)) w3 from ⟨by rw [HPA.out]; exact HQ3.out, HR3.out, HB3.out, HT.out.below HT.out.pos HB3.out⟩)
  have HSET := Lib.hid (fun A W (H : QI b13 b14 PA w A W) i v => H.set (by have := HL3.out; omega) (by have := HL3.out; omega) HT.out.pos i v)
  obtain ⟨wy, hwy⟩ : ∃ x, way % 8 = x := ⟨_, rfl⟩
  have hwyi : (way : Int) % 8 = (wy : Int) := by omega
  have HWY := Lib.hid (show wy < 8 by omega)
  clear hwy
  go_upto_block 0 with fail
  rw [hwyi]
  clear hwyi
  go_cut [15, 16] from 48 to 131 (fun dl _ W => Spoilt b13 b14 PA w dl W)
  case first =>
    have hc0 : _ = some (Value.int .u64 (h 0 : Int)) := HQI.out.r14.cell 0
    have hc1 : _ = some (Value.int .u64 (h 1 : Int)) := HQI.out.r14.cell 1
    have hc2 : _ = some (Value.int .u64 (h 2 : Int)) := HQI.out.r14.cell 2
    have hc3 : _ = some (Value.int .u64 (h 3 : Int)) := HQI.out.r14.cell 3
    have hc4 : _ = some (Value.int .u8 (t5 : Int)) := HQI.out.r14.cell 4
    have hc5 : _ = some (Value.int .u8 (l4 : Int)) := HQI.out.r14.cell 5
    have hc6 : _ = some (Value.slice none 0 0) := HQI.out.r14.cell 6
    have hf0 := HQI.out.r14.frozen 0
    have hf2 := HQI.out.r14.frozen 2
    have hf3 := HQI.out.r14.frozen 3
    have hf4 := HQI.out.r14.frozen 4
    have hf5 := HQI.out.r14.frozen 5
    have hf6 := HQI.out.r14.frozen 6
    have w0 := HD.out.w64 0
    have w1 := HD.out.w64 1
    have w2' := HD.out.w64 2
    have w3' := HD.out.w64 3
    have hb32 := HQI.out.r14.lt
    have hpos := HT.out.pos
    have hl3 := HL3.out
    rcases (show wy = 0 ∨ wy = 1 ∨ wy = 2 ∨ wy = 3 ∨ wy = 4 ∨ wy = 5 ∨ wy = 6 ∨ wy = 7 by have := HWY.out; omega) with rfl | rfl | rfl | rfl | rfl | rfl | rfl | rfl
    · simp only [show ((0 : Nat) : Int) = 0 from rfl]
      go_wp2_with fail
      go_meet
      case rel =>
        refine ⟨true, _, t5, l4, [], none, 0, rfl, ⟨setH_w64 HD.out.w64 ((HD.out.w64 0).lor (HD.out.w64 1)), by have := HTL.out; omega, by have := HTL.out; omega, wrong0 HD.out HQ.out.1 _ _, fun _ => wrong0 HD.out HQ.out.1 _ _, fun hr => by rw [wrong0 HD.out HQ.out.1] at hr; cases hr⟩, ?_, byt_nil _⟩
        rw [← posA_set _ _ _ _ _ (by decide)]
        exact HSET.out _ _ HQI.out 0 _
    · simp only [show ((1 : Nat) : Int) = 1 from rfl]
      obtain ⟨x, hx⟩ : ∃ x, card % 12 = x := ⟨_, rfl⟩
      have hxi : (card : Int) % 12 = (x : Int) := by omega
      have hx12 : x < 12 := by omega
      obtain ⟨y, hy⟩ : ∃ y, 52 + x = y := ⟨_, rfl⟩
      have hyi : 52 + (x : Int) = (y : Int) := by omega
      have HY := Lib.hid hy
      clear hx hy
      go_wp2_with fail
      go_meet
      case rel =>
        refine ⟨true, _, t5, l4, [], none, 0, rfl, ⟨setH_w64 HD.out.w64 ((HD.out.w64 2).lor (W64.shl1 y)), by have := HTL.out; omega, by have := HTL.out; omega, HY.out ▸ wrong1 HD.out _ _ hx12, fun _ => HY.out ▸ wrong1 HD.out _ _ hx12, fun hr => by rw [← HY.out, wrong1 HD.out _ _ hx12] at hr; cases hr⟩, ?_, byt_nil _⟩
        rw [← posA_set _ _ _ _ _ (by decide)]
        exact HSET.out _ _ HQI.out 2 _
    · simp only [show ((2 : Nat) : Int) = 2 from rfl]
      have h3p : 0 < h 3 := by
        obtain ⟨c, hc⟩ := pop_pos w3' (by rw [HD.out.pops 3 (by decide)]; exact HQ.out.1)
        rcases Nat.eq_zero_or_pos (h 3) with e | e
        · rw [e, Nat.zero_testBit] at hc; cases hc
        · exact e
      have hdr : bits BinOp.and IntKind.u64 (h 3 : Int) (IntKind.u64.wrap ((h 3 : Int) - 1)) = ((land (h 3) (h 3 - 1) : Nat) : Int) := by
        have e : IntKind.u64.wrap ((h 3 : Int) - 1) = ((h 3 - 1 : Nat) : Int) := by
          unfold W64 at w3'
          rw [IntKind.wrap_u64]; omega
        rw [e]; exact bits_and_nat _ _ w3' (by unfold W64 at w3' ⊢; omega)
      go_wp2_with fail
      go_meet
      case rel =>
        refine ⟨true, _, t5, l4, [], none, 0, rfl, ⟨setH_w64 HD.out.w64 (W64.land w3'), by have := HTL.out; omega, by have := HTL.out; omega, wrong2 HD.out HQ.out.1 _ _, fun _ => wrong2 HD.out HQ.out.1 _ _, fun hr => by rw [wrong2 HD.out HQ.out.1] at hr; cases hr⟩, ?_, byt_nil _⟩
        rw [← posA_set _ _ _ _ _ (by decide)]
        exact HSET.out _ _ HQI.out 3 _
    · simp only [show ((3 : Nat) : Int) = 3 from rfl]
      obtain ⟨x, hx⟩ : ∃ x, card % 200 = x := ⟨_, rfl⟩
      have hxi : (card : Int) % 200 = (x : Int) := by omega
      have hx200 : x < 200 := by omega
      clear hx
      go_wp2_with fail
      go_meet
      case rel =>
        refine ⟨false, h, 5 + x, l4, [], none, 0, rfl, ⟨HD.out.w64, by omega, by have := HTL.out; omega, wrong3 _ (by omega), (fun h => by cases h), fun _ => by rw [HD.out.pops 0 (by decide)]; exact HQ.out.2⟩, ?_, byt_nil _⟩
        exact HSET.out _ _ HQI.out 4 (.int .u8 ((5 + x : Nat) : Int))
    · simp only [show ((4 : Nat) : Int) = 4 from rfl]
      obtain ⟨x, hx⟩ : ∃ x, card % 200 = x := ⟨_, rfl⟩
      have hxi : (card : Int) % 200 = (x : Int) := by omega
      have hx200 : x < 200 := by omega
      clear hx
      go_wp2_with fail
      go_meet
      case rel =>
        refine ⟨false, h, t5, 4 + x, [], none, 0, rfl, ⟨HD.out.w64, by have := HTL.out; omega, by omega, wrong4 _ (by omega), (fun h => by cases h), fun _ => by rw [HD.out.pops 0 (by decide)]; exact HQ.out.2⟩, ?_, byt_nil _⟩
        exact HSET.out _ _ HQI.out 5 (.int .u8 ((4 + x : Nat) : Int))
    · simp only [show ((5 : Nat) : Int) = 5 from rfl]
      obtain ⟨m, hm, hm64, hml⟩ : ∃ m, (h 0).testBit m = true ∧ m < 64 ∧ ∀ i, i < m → (h 0).testBit i = false := by
        obtain ⟨c, hc⟩ := pop_pos w0 (by rw [HD.out.pops 0 (by decide)]; exact HQ.out.1)
        have h0 : h 0 ≠ 0 := fun e => by rw [e, Nat.zero_testBit] at hc; cases hc
        obtain ⟨-, -, h64⟩ := ctz_spec (h 0) h0 w0
        exact ⟨_, (ctz_bit (h 0) h0 w0).1, h64, (ctz_bit (h 0) h0 w0).2⟩
      have HML := Lib.hid hml
      have hr : Row ((w3.setCell ⟨b14, 6, none⟩ (.slice (some ⟨w3.heap.size, 0, none⟩) 1 1)).alloc (.cells #[.int .u8 0] 5)) w3.heap.size 5 #[.int .u8 ((0 : Nat) : Int)] := by
        have := Row.new (w3.setCell ⟨b14, 6, none⟩ (.slice (some ⟨w3.heap.size, 0, none⟩) 1 1)) 5 #[.int .u8 0]
        rwa [World.size_setCell] at this
      have ha := (Below.refl (w3.setCell ⟨b14, 6, none⟩ (.slice (some ⟨w3.heap.size, 0, none⟩) 1 1)).heap.size (w3.setCell ⟨b14, 6, none⟩ (.slice (some ⟨w3.heap.size, 0, none⟩) 1 1))).alloc (Nat.le_refl _) (.cells #[.int .u8 0] 5)
      have HRP := Lib.hid hr
      have HQP : Hid (QI b13 b14 PA w (posA h t5 l4 (.slice (some ⟨w3.heap.size, 0, none⟩) 1 1)) _) := Lib.hid ((HSET.out _ _ HQI.out 6 (.slice (some ⟨w3.heap.size, 0, none⟩) 1 1)).later ha)
      clear ha hr hml
      go_wp2_with fail
      have hbp : b14 < w3.heap.size := HQI.out.r14.lt
      generalize (w3.setCell ⟨b14, 6, none⟩ (.slice (some ⟨w3.heap.size, 0, none⟩) 1 1)).alloc (.cells #[.int .u8 0] 5) = w5 at *
      obtain ⟨bp, hbp2⟩ : ∃ b, w3.heap.size = b := ⟨_, rfl⟩
      rw [hbp2] at HRP HQP hbp ⊢
      clear hbp2 hc0 hc1 hc2 hc3 hc4 hc5 hc6 hf0 hf2 hf3 hf4 hf5 hf6
      go_loopg [] 64 (fun k wr => ∃ x : Nat, k = 64 - x ∧ x ≤ m ∧ Row wr bp 5 #[.int .u8 (x : Int)] ∧ QI b13 b14 PA w (posA h t5 l4 (.slice (some ⟨bp, 0, none⟩) 1 1)) wr)
      case atStart => exact ⟨0, rfl, Nat.zero_le _, HRP.out, HQP.out⟩
      case round =>
        obtain ⟨x, rfl, hx, hrow, hq⟩ := hrel
        have HRW := Lib.hid hrow
        have HQW := Lib.hid hq
        have hx64 : (x : Int) < 64 := by omega
        have c0 : _ = some (Value.int .u64 (h 0 : Int)) := hq.r14.cell 0
        have c6 : _ = some (Value.slice (some ⟨bp, 0, none⟩) 1 1) := hq.r14.cell 6
        have cp : _ = some (Value.int .u8 (x : Int)) := hrow.cell 0
        have f0 := fun dd os => cell_regrown c0 dd os
        have f6 := fun dd os => cell_regrown c6 dd os
        have fp := fun dd os => cell_regrown cp dd os
        clear hrow hq c0 c6 cp
        by_cases hxm : x = m
        · subst hxm
          go_wp2_with fail
          refine wp_region_quiet_below (by kernel_rfl) (by kernel_rfl) ?_
          repeat (first | go_big_quiet_step (fail) | quiet_step (fail))
          refine wpQuiet_nil ?_
          rintro _ ⟨p, rfl⟩
          have HRa := Lib.hid (HRW.out.later (below_regrown wr p.d p.os))
          have HQa := Lib.hid (HQW.out.later (below_regrown wr p.d p.os))
          generalize grow (redrawn wr p.d) p.os = wa at *
          clear f0 f6 fp
          go_wp2_with fail
          go_meet
          case rel =>
            exact ⟨false, h, t5, l4, [x], some ⟨bp, 0, none⟩, 1, rfl, ⟨HD.out.w64, by have := HTL.out; omega, by have := HTL.out; omega, wrong5 HD.out _ _ hm, (fun h => by cases h), fun _ => by rw [HD.out.pops 0 (by decide)]; exact HQ.out.2⟩, HQa.out, byt_row1 HRa.out (by omega)⟩
        · have hbx : (h 0).testBit x = false := HML.out x (by omega)
          go_wp2_with fail
          refine wp_region_quiet_below (by kernel_rfl) (by kernel_rfl) ?_
          repeat (first | go_big_quiet_step (fail) | quiet_step (fail))
          refine wpQuiet_nil ?_
          rintro _ ⟨p, rfl⟩
          have HRa := Lib.hid (HRW.out.later (below_regrown wr p.d p.os))
          have HQa := Lib.hid (HQW.out.later (below_regrown wr p.d p.os))
          generalize grow (redrawn wr p.d) p.os = wa at *
          clear f0 f6 fp
          have c6 : _ = some (Value.slice (some ⟨bp, 0, none⟩) 1 1) := HQa.out.r14.cell 6
          have cp : _ = some (Value.int .u8 (x : Int)) := HRa.out.cell 0
          have fz := HRa.out.frozen 0
          go_wp2_with fail
          go_roundg (64 - (x + 1))
          case measure => omega
          case rel =>
            refine ⟨x + 1, rfl, by omega, HRa.out.set 0 _, ?_⟩
            have hq := HQa.out
            exact ⟨hq.r14.other (by omega), hq.r13.other (by have := HL3.out; omega), But.below hq.bl (But.setCell (B := w.heap.size) _ _ _) (Nat.le_refl _) (by have := HL3.out; omega), But.tab hq.tb (But.setCell (B := wa.heap.size) _ _ _) hq.tb.pos (by have := HL3.out; omega)⟩
    · simp only [show ((6 : Nat) : Int) = 6 from rfl]
      obtain ⟨x, hx⟩ : ∃ x, card % 200 = x := ⟨_, rfl⟩
      have hxi : (card : Int) % 200 = (x : Int) := by omega
      have hx200 : x < 200 := by omega
      obtain ⟨y, hy⟩ : ∃ y, 52 + x = y := ⟨_, rfl⟩
      have hyi : 52 + (x : Int) = (y : Int) := by omega
      have hy256 : y < 256 := by omega
      have HY := Lib.hid hy
      clear hx hy
      go_wp2_with fail
      go_meet
      case rel =>
        have hr : Row ((w3.setCell ⟨b14, 6, none⟩ (.slice (some ⟨w3.heap.size, 0, none⟩) 1 1)).alloc (.cells #[.int .u8 (y : Int)] 5)) w3.heap.size 5 #[.int .u8 (y : Int)] := by
          have := Row.new (w3.setCell ⟨b14, 6, none⟩ (.slice (some ⟨w3.heap.size, 0, none⟩) 1 1)) 5 #[.int .u8 (y : Int)]
          rwa [World.size_setCell] at this
        have ha := (Below.refl (w3.setCell ⟨b14, 6, none⟩ (.slice (some ⟨w3.heap.size, 0, none⟩) 1 1)).heap.size (w3.setCell ⟨b14, 6, none⟩ (.slice (some ⟨w3.heap.size, 0, none⟩) 1 1))).alloc (Nat.le_refl _) (.cells #[.int .u8 (y : Int)] 5)
        refine ⟨false, h, t5, l4, [y], some ⟨w3.heap.size, 0, none⟩, 1, rfl, ⟨HD.out.w64, by have := HTL.out; omega, by have := HTL.out; omega, wrong6 HD.out _ _ (by have := HY.out; omega), (fun h => by cases h), fun _ => by rw [HD.out.pops 0 (by decide)]; exact HQ.out.2⟩, ?_, byt_row1 hr hy256⟩
        exact (HSET.out _ _ HQI.out 6 (.slice (some ⟨w3.heap.size, 0, none⟩) 1 1)).later ha
    · simp only [show ((7 : Nat) : Int) = 7 from rfl]
      go_wp2_with fail
      clear hc0 hc1 hc2 hc3 hc4 hc5 hc6 hf0 hf2 hf3 hf4 hf5 hf6
      go_loopg [16, 48] 4 (fun k _ i wr => ∃ j : Nat, k = 4 - j ∧ j ≤ 4 ∧ i = .int .i64 (j : Int) ∧ QI b13 b14 PA w (posA (many7 h j) t5 l4 (.slice none 0 0)) wr)
      case atStart => exact ⟨0, rfl, by omega, rfl, HQI.out⟩
      case round =>
        obtain ⟨j, rfl, hj, rfl, hq⟩ := hrel
        have HQW := Lib.hid hq
        rcases (show j = 0 ∨ j = 1 ∨ j = 2 ∨ j = 3 ∨ j = 4 by omega) with rfl | rfl | rfl | rfl | rfl
        · obtain ⟨u, c0⟩ : ∃ u, wr.cell? ⟨b14, 0, none⟩ = some u := ⟨_, hq.r14.cell 0⟩
          have f0 := hq.r14.frozen 0
          clear hq
          simp only [show ((0 : Nat) : Int) = 0 from rfl]
          go_wp2_with fail
          go_roundg (3)
          case measure => omega
          case rel => exact ⟨1, rfl, by omega, rfl, many7_set h 0 (by decide) t5 l4 _ ▸ HSET.out _ _ HQW.out 0 (.int .u64 ((127 * 2 ^ (13 * 0) : Nat) : Int))⟩
        · obtain ⟨u, c0⟩ : ∃ u, wr.cell? ⟨b14, 1, none⟩ = some u := ⟨_, hq.r14.cell 1⟩
          have f0 := hq.r14.frozen 1
          clear hq
          simp only [show ((1 : Nat) : Int) = 1 from rfl]
          go_wp2_with fail
          go_roundg (2)
          case measure => omega
          case rel => exact ⟨2, rfl, by omega, rfl, many7_set h 1 (by decide) t5 l4 _ ▸ HSET.out _ _ HQW.out 1 (.int .u64 ((127 * 2 ^ (13 * 1) : Nat) : Int))⟩
        · obtain ⟨u, c0⟩ : ∃ u, wr.cell? ⟨b14, 2, none⟩ = some u := ⟨_, hq.r14.cell 2⟩
          have f0 := hq.r14.frozen 2
          clear hq
          simp only [show ((2 : Nat) : Int) = 2 from rfl]
          go_wp2_with fail
          go_roundg (1)
          case measure => omega
          case rel => exact ⟨3, rfl, by omega, rfl, many7_set h 2 (by decide) t5 l4 _ ▸ HSET.out _ _ HQW.out 2 (.int .u64 ((127 * 2 ^ (13 * 2) : Nat) : Int))⟩
        · obtain ⟨u, c0⟩ : ∃ u, wr.cell? ⟨b14, 3, none⟩ = some u := ⟨_, hq.r14.cell 3⟩
          have f0 := hq.r14.frozen 3
          clear hq
          simp only [show ((3 : Nat) : Int) = 3 from rfl]
          go_wp2_with fail
          go_roundg (0)
          case measure => omega
          case rel => exact ⟨4, rfl, by omega, rfl, many7_set h 3 (by decide) t5 l4 _ ▸ HSET.out _ _ HQW.out 3 (.int .u64 ((127 * 2 ^ (13 * 3) : Nat) : Int))⟩
        · simp only [show ((4 : Nat) : Int) = 4 from rfl]
          go_wp2_with fail
          go_meet
          case rel =>
            exact ⟨true, _, t5, l4, [], none, 0, rfl, ⟨many7_w64 HD.out.w64, by have := HTL.out; omega, by have := HTL.out; omega, wrong7 _ HD.out.w64 _ _, fun _ => wrong7 _ HD.out.w64 _ _, fun hr => by rw [wrong7 _ HD.out.w64] at hr; cases hr⟩, HQW.out, byt_nil _⟩
  case rest =>
    obtain ⟨dv, h2, tr2, ld2, ps, ao, c2, rfl, hwr, hqi, hby⟩ := hcut
    have HQ4 := Lib.hid hqi
    have HBY := Lib.hid hby
    have HLE := Lib.hid (fun W hz => dm_Left_no h2 tr2 ld2 ps ao c2 hwr.w64 hwr.t256 hwr.l256 W hz hwr.no)
    have HSO := Lib.hid (fun W hz => dm_Solve_no h2 tr2 ld2 ps ao c2 hwr.w64 hwr.t256 hwr.l256 W hz hwr.no)
    have HCH := Lib.hid (fun W hz => dm_Choices_no h2 tr2 ld2 ps ao c2 hwr.w64 hwr.t256 hwr.l256 W hz hwr.no)
    have HLI := Lib.hid (fun W hz => dm_Line_no h2 tr2 ld2 ps ao c2 hwr.w64 hwr.t256 hwr.l256 W hz hwr.no)
    have HPL := Lib.hid (fun W hz => dm_Play_no h2 tr2 ld2 ps ao c2 card hwr.w64 hwr.t256 hwr.l256 W hz hwr.no)
    have HRI := Lib.hid (fun W hz => dm_Right h2 tr2 ld2 ps ao c2 hwr.w64 hwr.t256 hwr.l256 W hz)
    rw [hwr.no] at HRI
    have HWR := Lib.hid hwr
    have HPZ2 : Hid ((posA h2 tr2 ld2 (.slice ao ps.length c2)).size = 7) := Lib.hid rfl
    have HPC : Hid (∀ s, s < 4 → (posA h2 tr2 ld2 (.slice ao ps.length c2))[s]? = some (.int .u64 (h2 s : Int))) := Lib.hid fun s hs => posA_h _ _ _ _ hs
    obtain ⟨P2, hP2⟩ : ∃ A, posA h2 tr2 ld2 (.slice ao ps.length c2) = A := ⟨_, rfl⟩
    rw [hP2] at HLE HSO HCH HLI HPL HRI HQ4 HPZ2 HPC
    clear hP2 hqi hby hwr
    go_wp2_with (refine wpList_load_row rfl 27 (.tmp 14) rfl b14 rfl 27 P2 (0, 0) _ HQ4.out.r14 Tryd.underlying27 rfl (by rw [HPZ2.out]; exact size_pos) ?_)
    refine (HLE.out _ HBY.out).mono ?_
    rintro e w5 ⟨rfl, hb⟩
    have HQ5 := Lib.hid (HQ4.out.later hb)
    have HBY5 := Lib.hid (HBY.out.below (Nat.le_refl _) hb)
    clear hb
    go_wp2_with (refine wpList_load_row rfl 27 (.tmp 14) rfl b14 rfl 27 P2 (0, 0) _ HQ5.out.r14 Tryd.underlying27 rfl (by rw [HPZ2.out]; exact size_pos) ?_)
    refine (HSO.out _ HBY5.out).mono ?_
    rintro e w6 ⟨rfl, hb⟩
    have HQ6 := Lib.hid (HQ5.out.later hb)
    have HBY6 := Lib.hid (HBY5.out.below (Nat.le_refl _) hb)
    clear hb
    go_wp2_with (refine wpList_load_row rfl 27 (.tmp 14) rfl b14 rfl 27 P2 (0, 0) _ HQ6.out.r14 Tryd.underlying27 rfl (by rw [HPZ2.out]; exact size_pos) ?_)
    refine (HCH.out _ HBY6.out).mono ?_
    rintro e w7 ⟨rfl, hb⟩
    have HQ7 := Lib.hid (HQ6.out.later hb)
    have HBY7 := Lib.hid (HBY6.out.below (Nat.le_refl _) hb)
    clear hb
    go_wp2_with (refine wpList_load_row rfl 27 (.tmp 14) rfl b14 rfl 27 P2 (0, 0) _ HQ7.out.r14 Tryd.underlying27 rfl (by rw [HPZ2.out]; exact size_pos) ?_)
    refine (HLI.out _ HBY7.out).mono ?_
    rintro e w8 ⟨rfl, hb⟩
    have HQ8 := Lib.hid (HQ7.out.later hb)
    have HBY8 := Lib.hid (HBY7.out.below (Nat.le_refl _) hb)
    clear hb
    go_wp2_with (refine wpList_load_row rfl 27 (.tmp 14) rfl b14 rfl 27 P2 (0, 0) _ HQ8.out.r14 Tryd.underlying27 rfl (by rw [HPZ2.out]; exact size_pos) ?_)
    refine (HPL.out _ HBY8.out).mono ?_
    rintro e w9 ⟨rfl, hb⟩
    have HQ9 := Lib.hid (HQ8.out.later hb)
    have HBY9 := Lib.hid (HBY8.out.below (Nat.le_refl _) hb)
    clear hb
    obtain ⟨MA, er, hMA, her, hmk⟩ := dm_Makes_any HWR.out
    have HMA := Lib.hid hMA
    have HER := Lib.hid her
    have HMK := Lib.hid hmk
    simp only [deA] at HMK
    clear hMA her hmk
    have HN9 := Lib.hid (Row.new w9 27 zeroP)
    have ha := below_setRow ((Below.refl w9.heap.size w9).alloc (Nat.le_refl _) (.cells zeroP 27)) (Nat.le_refl _) zeroP
    have HQ10 := Lib.hid (HQ9.out.later ha)
    have HBY10 := Lib.hid (HBY9.out.below (Nat.le_refl _) ha)
    clear ha
    go_upto_region 30 with (refine wpList_store_row rfl 27 (.tmp 26) (.tmp 157) rfl w9.heap.size zeroP rfl rfl 27 _ HN9.out size_pos rfl (by simp [Value.oneCell']) ?_)
    try dsimp only [Act.put]
    generalize (w9.alloc (.cells zeroP 27)).setRow w9.heap.size zeroP = w10 at *
    generalize w9.heap.size = b26 at *
    have c0 := (HQ10.out.r14.cell 0).trans (HPC.out 0 (by decide))
    have c1 := (HQ10.out.r14.cell 1).trans (HPC.out 1 (by decide))
    have c2' := (HQ10.out.r14.cell 2).trans (HPC.out 2 (by decide))
    have c3 := (HQ10.out.r14.cell 3).trans (HPC.out 3 (by decide))
    go_wp2_with fail
    refine (HMK.out _ HQ10.out.tb).mono ?_
    rintro e w11 ⟨rfl, hb⟩
    have HQ11 := Lib.hid (HQ10.out.later hb)
    have HBY11 := Lib.hid (HBY10.out.below (Nat.le_refl _) hb)
    clear hb c0 c1 c2' c3
    have HN11 := Lib.hid (Row.new w11 52 Z20)
    have ha := below_setRow ((Below.refl w11.heap.size w11).alloc (Nat.le_refl _) (.cells Z20 52)) (Nat.le_refl _) MA
    have HQ12 := Lib.hid (HQ11.out.later ha)
    have HBY12 := Lib.hid (HBY11.out.below (Nat.le_refl _) ha)
    clear ha
    go_upto_region 31 with (refine wpList_store_row rfl 52 (.tmp 29) (.tmp 164) rfl w11.heap.size MA rfl rfl 52 _ HN11.out (by rw [HMA.out.1]; exact size_mk) (by rw [HMA.out.1]; rfl) HMA.out.2 ?_)
    try dsimp only [Act.put]
    generalize (w11.alloc (.cells Z20 52)).setRow w11.heap.size MA = w12 at *
    generalize w11.heap.size = b29 at *
    go_wp2_with (refine wpList_load_row rfl 27 (.tmp 14) rfl b14 rfl 27 P2 (0, 0) _ HQ12.out.r14 Tryd.underlying27 rfl (by rw [HPZ2.out]; exact size_pos) ?_)
    refine (HRI.out _ HBY12.out).mono ?_
    rintro e w13 ⟨rfl, hb⟩
    have HQ13 := Lib.hid (HQ12.out.later hb)
    clear hb
    have hright := HD.out.right (tr := t5) (ld := l4) (by have := HQ.out; omega) (by have := HTL.out; omega) (by have := HTL.out; omega)
    have HLE1 := Lib.hid (fun W => dm_Left_ok h t5 l4 [] none 0 HD.out.w64 (by have := HTL.out; omega) (by have := HTL.out; omega) W (byt_nil W) hright)
    have hl4' : (l4 + ([] : List Nat).length) % 4 = l4 := by have := HTL.out; simp; omega
    rw [hl4'] at HLE1
    have HPO := Lib.hid (fun W hl => dm_Play_ok h t5 l4 [] none 0 card HD.out.w64 (by have := HTL.out; omega) (by have := HTL.out; omega) W (byt_nil W) hright hl)
    have HPN := Lib.hid (fun W hl => dm_Play_none h t5 l4 [] none 0 card HD.out.w64 (by have := HTL.out; omega) (by have := HTL.out; omega) hcard W (byt_nil W) hright hl)
    have HLG : Hid (Tb.legal ⟨h, l4, []⟩ card = (h l4).testBit card) := Lib.hid (by
      rw [Bool.eq_iff_iff, legal_iff]
      have : (Tb.mk h l4 []).turn = l4 := hl4'
      rw [this]
      simp)
    have HCB : Hid ((h l4).testBit card = true → card < 52) := Lib.hid fun hb => HD.out.in52 l4 (by have := HTL.out; omega) card hb
    have hPA' : posA h t5 l4 (.slice none ([] : List Nat).length 0) = PA := HPA.out
    rw [hPA'] at HLE1 HPO HPN
    have HPC1 : Hid (PA[l4]? = some (.int .u64 (h l4 : Int))) := Lib.hid (by rw [← HPA.out]; exact posA_h _ _ _ _ (by have := HTL.out; omega))
    have hwl := HD.out.w64 l4
    obtain ⟨⟨u, wn⟩, hu⟩ : ∃ u, (Tb.mk h l4 []).put t5 card = u := ⟨_, rfl⟩
    rw [hu] at HPO
    dsimp only at HPO
    clear hright hl4' hPA' hu
    have her := HER.out
    cases dv
    case' true => obtain rfl : er = 2 := her rfl
    all_goals (
      clear her
      go_wp2_with (refine wpList_load_row rfl 27 (.tmp 13) rfl b13 rfl 27 PA (0, 0) _ HQ13.out.r13 Tryd.underlying27 rfl (by rw [HPZ.out.1]; exact size_pos) ?_)
      refine (HLE1.out _).mono ?_
      rintro e w14 ⟨rfl, hb⟩
      have HQ14 := Lib.hid (HQ13.out.later hb)
      clear hb
      by_cases hin : (h l4).testBit card = true
      · have hcx : (card : Int) < 52 := by have := HCB.out hin; omega
        have HPO2 := Lib.hid (HPO.out w14 (by rw [HLG.out]; exact hin))
        go_wp2_with (refine wpList_load_row rfl 27 (.tmp 13) rfl b13 rfl 27 PA (0, 0) _ HQ14.out.r13 Tryd.underlying27 rfl (by rw [HPZ.out.1]; exact size_pos) ?_)
        refine HPO2.out.mono ?_
        rintro e w15 ⟨v, rfl, hov, hb⟩
        have HQ15 := Lib.hid (HQ14.out.later hb)
        obtain ⟨va, vc, rfl, -⟩ := hov.slice
        clear hb hov
        have HPV : Hid ((posA u.h t5 u.ld (.slice va u.cs.length vc)).size = 7 ∧ (posA u.h t5 u.ld (.slice va u.cs.length vc)).all (·.oneCell') = true) := Lib.hid ⟨rfl, by simp [posA, Value.oneCell']⟩
        obtain ⟨PV, hPV⟩ : ∃ A, posA u.h t5 u.ld (.slice va u.cs.length vc) = A := ⟨_, rfl⟩
        rw [hPV] at HPV ⊢
        clear hPV
        have HN15 := Lib.hid (Row.new w15 27 zeroP)
        have ha := below_setRow ((Below.refl w15.heap.size w15).alloc (Nat.le_refl _) (.cells zeroP 27)) (Nat.le_refl _) PV
        have HQ16 := Lib.hid (HQ15.out.later ha)
        clear ha
        go_upto_region 35 with (refine wpList_store_row rfl 27 (.tmp 34) (.tmp 209) rfl w15.heap.size PV rfl rfl 27 _ HN15.out (by rw [HPV.out.1]; exact size_pos) (by rw [HPV.out.1]; rfl) HPV.out.2 ?_)
        try dsimp only [Act.put]
        generalize (w15.alloc (.cells zeroP 27)).setRow w15.heap.size PV = w16 at *
        generalize w15.heap.size = b34 at *
        have cl := (HQ16.out.r13.cell l4).trans HPC1.out
        have hl4i : (l4 : Int) < 4 := by have := HTL.out; omega
        go_wp2_with fail
        refine (dm_awake _ HQ16.out.tb).mono ?_
        rintro e w17 ⟨rfl, hb⟩
        have HB17 := Lib.hid (HQ16.out.bl.trans (hb.mono HQ16.out.bl.size))
        clear hb
        go_wp2_with fail
        go_ret
        exact ⟨rfl, HB17.out⟩
      · have hin' : (h l4).testBit card = false := by simpa using hin
        have HPO2 := Lib.hid (HPN.out w14 (by rw [HLG.out]; exact hin'))
        clear hin
        go_wp2_with (refine wpList_load_row rfl 27 (.tmp 13) rfl b13 rfl 27 PA (0, 0) _ HQ14.out.r13 Tryd.underlying27 rfl (by rw [HPZ.out.1]; exact size_pos) ?_)
        refine HPO2.out.mono ?_
        rintro e w15 ⟨rfl, hb⟩
        have HQ15 := Lib.hid (HQ14.out.later hb)
        clear hb
        have HN15 := Lib.hid (Row.new w15 27 zeroP)
        have ha := below_setRow ((Below.refl w15.heap.size w15).alloc (Nat.le_refl _) (.cells zeroP 27)) (Nat.le_refl _) zeroP
        have HQ16 := Lib.hid (HQ15.out.later ha)
        clear ha
        go_upto_region 35 with (refine wpList_store_row rfl 27 (.tmp 34) (.tmp 209) rfl w15.heap.size zeroP rfl rfl 27 _ HN15.out size_pos rfl (by simp [Value.oneCell']) ?_)
        try dsimp only [Act.put]
        generalize (w15.alloc (.cells zeroP 27)).setRow w15.heap.size zeroP = w16 at *
        generalize w15.heap.size = b34 at *
        have cl := (HQ16.out.r13.cell l4).trans HPC1.out
        have hl4i : (l4 : Int) < 4 := by have := HTL.out; omega
        rcases (show (card : Int) < 52 ∨ ¬ (card : Int) < 52 by omega) with hcx | hcx
        all_goals (
          go_wp2_with fail
          refine (dm_awake _ HQ16.out.tb).mono ?_
          rintro e w17 ⟨rfl, hb⟩
          have HB17 := Lib.hid (HQ16.out.bl.trans (hb.mono HQ16.out.bl.size))
          clear hb
          go_wp2_with fail
          go_ret
          exact ⟨rfl, HB17.out⟩))
end Go.Proofs.YtpobcaopfeddgaaDoor
