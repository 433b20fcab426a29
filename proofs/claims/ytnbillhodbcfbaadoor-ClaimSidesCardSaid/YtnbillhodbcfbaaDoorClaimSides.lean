/- ClaimSides over this seat's program. -/
import Derived.Test.YtnbillhodbcfbaaDoorMCls
namespace Go.Proofs.YtnbillhodbcfbaaDoor
open Go.RowKit Go.Sort Go.Shelf Go.Maps Go.WideMaps

/-- a line is made, and a claim of it -/
def SdS (w1 : World) (sd : Nat) (ln : List Nat) (vs _us : List Value) (W : World) : Prop := Below w1.heap.size w1 W ∧ match vs with
  | [] => True
  | [v] => LnM W v ln
  | [_, v] => ∃ p, v = .agg (cmA sd 0 p) ∧ LnM W p ln
  | _ => False
theorem SdS.below {w1 : World} {sd : Nat} {ln : List Nat} {vs us : List Value} {W W' : World} (h : SdS w1 sd ln vs us W) (hb : Below W.heap.size W W') : SdS w1 sd ln vs us W' := by
  obtain ⟨h1, h2⟩ := h
  refine ⟨h1.trans (hb.mono h1.size), ?_⟩
  match vs, h2 with
  | [], _ => trivial
  | [_], h => exact h.below hb
  | [_, _], ⟨p, e, h⟩ => exact ⟨p, e, h.below hb⟩
/-- what is won by a side at best -/
def sumB (t5 q n k : Nat) (t : Tb) : Nat := if k = 0 then 0 else if k = 1 then bestV 0 t5 q n t else bestV 0 t5 q n t + bestV 1 t5 q n t
set_option maxHeartbeats 4000000 in
set_option maxRecDepth 10000 in
theorem law_ClaimSides (a : Option Addr) (len cap : Nat) (zs : List Nat) (n tr ld : Nat) (a2 : Option Addr) (len2 cap2 : Nat) (zs2 : List Nat) (w : World) (hz : Byt w a len zs) (hn : n < 256) (htr : tr < 256) (hld : ld < 256) (hz2 : Byt w a2 len2 zs2) (hT : Tab w) :
    Calls Tryd.prog 7 #[.slice a len cap, .int .u8 (n : Int), .int .u8 (tr : Int), .int .u8 (ld : Int), .slice a2 len2 cap2] w fun e w' => e = .returned (.bool true) ∧ Below w.heap.size w w' := by
  have HT := Lib.hid hT
  have HZ2 := Lib.hid hz2
  have HDE := Lib.hid (dm_Dealt a len cap zs n tr ld 3 hn htr hld (by decide) w hz)
  have hq4 : n % (3 + 1) ≤ 4 := by omega
  have hq3 : n % (3 + 1) ≤ 3 := by omega
  have ht5 : tr % 5 < 5 := by omega
  have hl4 : ld % 4 < 4 := by omega
  obtain ⟨q, hq⟩ : ∃ q, n % (3 + 1) = q := ⟨_, rfl⟩
  obtain ⟨t5, htt⟩ : ∃ q, tr % 5 = q := ⟨_, rfl⟩
  obtain ⟨l4, hll⟩ : ∃ q, ld % 4 = q := ⟨_, rfl⟩
  rw [hq, htt, hll] at HDE
  rw [hq] at hq4 hq3
  rw [htt] at ht5
  rw [hll] at hl4
  have hnq : (n : Int) % 4 = (q : Int) := by omega
  have hnt : (n : Int).tmod 4 = (q : Int) := by rw [Int.tmod_eq_emod_of_nonneg (by omega)]; omega
  simp only [show ((3 : Nat) : Int) = 3 from rfl] at HDE
  clear hq htt hll hz hT hz2
  have HNQ := Lib.hid (And.intro hnq hnt)
  clear hnq hnt
  go_enter Tryd.func7, Tryd.ntmps7
  go_upto_region 1 with fail
  go_wp2_with fail
  refine HDE.out.mono ?_
  rintro e w1 ⟨h, hD, rfl, hb1⟩
  obtain ⟨hrt, hRP⟩ := dealt_all hD hq4 ht5 hl4
  have HPZ : Hid ((posA h t5 l4 (.slice none 0 0)).size = 7 ∧ (posA h t5 l4 (.slice none 0 0)).all (·.oneCell') = true) := Lib.hid ⟨rfl, by simp [posA, Value.oneCell']⟩
  have HMU := Lib.hid (fun (k : Nat) (hk : k < 2) W (hT : Tab W) => cl_Must_ok h t5 l4 [] none 0 k hD.w64 (by omega) (by omega) hk W (ch_nil W) hT q (hD.turn l4) hq4 hrt)
  have HBE := Lib.hid (fun (k : Nat) (hk : k < 2) W (hT : Tab W) => cl_Best_ok h t5 l4 [] none 0 k hD.w64 (by omega) (by omega) hk W (ch_nil W) hT q (hD.turn l4) hq4 hrt)
  have HSU := Lib.hid (fun (k : Nat) (hk : k < 2) W (hT : Tab W) la lcap (hl : Byt W la (lnd zs2).length (lnd zs2)) hln => cl_Sure_ok h t5 l4 [] none 0 (1 - k) 0 (lnd zs2) la lcap hD.w64 (by omega) (by omega) (by omega) W (ch_nil W) hl hln hT q (hD.turn l4) hq4 hrt (lnd_claim zs2 (by omega) (by omega) (by omega)) (lnd_ok zs2).2.2)
  have HLE := Lib.hid (fun W => dm_Left_ok h t5 l4 [] none 0 hD.w64 (by omega) (by omega) W (ch_nil W) hrt)
  rw [hD.turn l4] at HLE
  have HSI := Lib.hid (fun (k : Nat) (hk : k < 2) => mn_sides (line := lnd zs2) (tr := t5) hk (4 * q - ([] : List Nat).length) q ⟨h, l4, []⟩ hRP.ok.pk hRP.evn (by simp))
  have hvl := val_le t5 (4 * q - ([] : List Nat).length) q ⟨h, l4, []⟩ (by simp) hRP.evn (by simp)
  have HSB2 : Hid (sumB t5 q (4 * q - ([] : List Nat).length) 2 ⟨h, l4, []⟩ = q) := Lib.hid (by unfold sumB bestV; simp only [if_neg (show ¬ (2 = 0) by decide), if_neg (show ¬ (2 = 1) by decide), if_neg (show ¬ (0 = 1) by decide), if_true]; omega)
  have HBL : Hid (∀ k, k < 2 → bestV k t5 q (4 * q - ([] : List Nat).length) ⟨h, l4, []⟩ ≤ q) := Lib.hid (fun k hk => by unfold bestV; split <;> omega)
  have HSS : Hid (∀ k, k < 2 → sumB t5 q (4 * q - ([] : List Nat).length) (k + 1) ⟨h, l4, []⟩ = sumB t5 q (4 * q - ([] : List Nat).length) k ⟨h, l4, []⟩ + bestV k t5 q (4 * q - ([] : List Nat).length) ⟨h, l4, []⟩) := Lib.hid (fun k hk => by
    rcases (show k = 0 ∨ k = 1 by omega) with rfl | rfl
    · simp [sumB]
    · simp [sumB])
  have HSL : Hid (∀ k, k < 2 → sumB t5 q (4 * q - ([] : List Nat).length) k ⟨h, l4, []⟩ ≤ q) := Lib.hid (fun k hk => by
    have := HBL.out 0 (by omega)
    rcases (show k = 0 ∨ k = 1 by omega) with rfl | rfl
    · simp [sumB]
    · simpa [sumB] using this)
  obtain ⟨sb, hsb⟩ : ∃ f : Nat → Nat, (fun k => sumB t5 q (4 * q - ([] : List Nat).length) k ⟨h, l4, []⟩) = f := ⟨_, rfl⟩
  have HS0 : Hid (sb 0 = 0) := Lib.hid (by rw [← hsb]; rfl)
  have e1 : ∀ k, sumB t5 q (4 * q - ([] : List Nat).length) k ⟨h, l4, []⟩ = sb k := fun k => by rw [← hsb]
  simp only [e1] at HSB2 HSS HSL
  clear e1 hsb
  obtain ⟨bv, hbv⟩ : ∃ f : Nat → Nat, (fun k => bestV k t5 q (4 * q - ([] : List Nat).length) ⟨h, l4, []⟩) = f := ⟨_, rfl⟩
  have e1 : ∀ k, bestV k t5 q (4 * q - ([] : List Nat).length) ⟨h, l4, []⟩ = bv k := fun k => by rw [← hbv]
  simp only [e1] at HBE HSS HBL
  clear e1 hbv
  obtain ⟨mu, hmu⟩ : ∃ f : Nat → Nat, (fun k => mn k t5 true [] (4 * q - ([] : List Nat).length) ⟨h, l4, []⟩) = f := ⟨_, rfl⟩
  have e1 : ∀ k, mn k t5 true [] (4 * q - ([] : List Nat).length) ⟨h, l4, []⟩ = mu k := fun k => by rw [← hmu]
  simp only [e1] at HMU HSI
  clear e1 hmu
  obtain ⟨su, hsu⟩ : ∃ f : Nat → Nat, (fun k => mn k t5 false (lnd zs2) (4 * q - ([] : List Nat).length) ⟨h, l4, []⟩) = f := ⟨_, rfl⟩
  have e1 : ∀ k, mn k t5 false (lnd zs2) (4 * q - ([] : List Nat).length) ⟨h, l4, []⟩ = su k := fun k => by rw [← hsu]
  simp only [e1] at HSU HSI
  clear e1 hsu hvl
  obtain ⟨PA, hPA⟩ : ∃ A, posA h t5 l4 (.slice none 0 0) = A := ⟨_, rfl⟩
  have hPA' : posA h t5 l4 (.slice none ([] : List Nat).length 0) = PA := hPA
  rw [hPA] at HPZ ⊢
  simp only [hPA'] at HSU HMU HBE HLE
  clear hPA' hD hrt hRP
  have HN := Lib.hid (Row.new w1 27 zeroP)
  have ha := below_setRow ((Below.refl w1.heap.size w1).alloc (Nat.le_refl _) (.cells zeroP 27)) (Nat.le_refl _) PA
  have HR := Lib.hid (show Row ((w1.alloc (.cells zeroP 27)).setRow w1.heap.size PA) w1.heap.size 27 PA from setRow_heap _ _ _ _ _ _ HN.out)
  have HB := Lib.hid (hb1.trans (ha.mono hb1.size))
  clear hb1 ha hPA
  go_upto_region 2 with (refine wpList_store_row rfl 27 (.tmp 11) (.tmp 28) rfl w1.heap.size PA rfl rfl 27 _ HN.out (by rw [HPZ.out.1]; exact size_pos) (by rw [HPZ.out.1]; rfl) HPZ.out.2 ?_)
  generalize (w1.alloc (.cells zeroP 27)).setRow w1.heap.size PA = w2 at *
  obtain ⟨bp, hbp⟩ : ∃ b, w1.heap.size = b := ⟨_, rfl⟩
  rw [hbp] at HR ⊢
  clear hbp HN
  go_wp2_with (refine wpList_load_row rfl 27 (.tmp 11) rfl bp rfl 27 PA (0, 0) _ HR.out Tryd.underlying27 rfl (by rw [HPZ.out.1]; exact size_pos) ?_)
  refine (HLE.out w2).mono ?_
  rintro e w3 ⟨rfl, hb⟩
  have HR3 := Lib.hid (HR.out.later hb)
  have HB3 := Lib.hid (HB.out.trans (hb.mono HB.out.size))
  clear hb HR HB
  go_upto_region 5 with fail
  try dsimp only [Act.put]
  go_loopg [15, 35] 2 (fun g sv kv wr => ∃ (k : Nat), g = 2 - k ∧ k ≤ 2 ∧ sv = .int .i64 (sb k : Int) ∧ kv = .int .i64 (k : Int) ∧ Row wr bp 27 PA ∧ Below w.heap.size w wr)
  case atStart => exact ⟨0, rfl, by omega, by rw [HS0.out]; rfl, rfl, HR3.out, HB3.out⟩
  case round =>
    obtain ⟨k, rfl, hk, rfl, rfl, hc, hb⟩ := hrel
    have HR4 := Lib.hid hc
    have HB4 := Lib.hid hb
    clear hc hb
    by_cases hlt : k < 2
    · have hdk : decide (k < 2) = true := by simp; omega
      have hdK : decide ((k : Int) < 2) = true := by simp; omega
      have hkw : IntKind.u8.wrap (k : Int) = (k : Int) := by rw [IntKind.wrap_u8]; omega
      have HSB : Hid (IntKind.u8.wrap (1 - (k : Int)) = ((1 - k : Nat) : Int)) := Lib.hid (by rw [IntKind.wrap_u8]; omega)
      have HBEk := Lib.hid (HBE.out k hlt)
      have HMUk := Lib.hid (HMU.out k hlt)
      have HSU1 := Lib.hid (HSU.out k hlt)
      have HSIk := Lib.hid (HSI.out k hlt)
      have HSSk := Lib.hid (HSS.out k hlt)
      have HBLk := Lib.hid (HBL.out k hlt)
      have HSLk := Lib.hid (HSL.out k hlt)
      obtain ⟨x, hx⟩ : ∃ z, mu k = z := ⟨_, rfl⟩
      obtain ⟨y, hy⟩ : ∃ z, su (1 - k) = z := ⟨_, rfl⟩
      obtain ⟨bb, hbb⟩ : ∃ z, bv k = z := ⟨_, rfl⟩
      obtain ⟨s0, hs0⟩ : ∃ z, sb k = z := ⟨_, rfl⟩
      rw [hx] at HMUk HSIk
      rw [hy] at HSU1 HSIk
      rw [hbb] at HBEk HSSk HBLk
      rw [hs0] at HSSk HSLk ⊢
      have HLT := Lib.hid hlt
      clear hx hy hbb hs0 hlt
      have HT4 := Lib.hid (HT.out.below HT.out.pos HB4.out)
      go_upto_region 8 with fail
      go_wp2_with (refine wpList_load_row rfl 27 (.tmp 11) rfl bp rfl 27 PA (0, 0) _ HR4.out Tryd.underlying27 rfl (by rw [HPZ.out.1]; exact size_pos) ?_)
      refine (HBEk.out _ HT4.out).mono ?_
      rintro e w5 ⟨rfl, hb⟩
      have HR5 := Lib.hid (HR4.out.later hb)
      have HB5 := Lib.hid (HB4.out.trans (hb.mono HB4.out.size))
      have HT5 := Lib.hid (HT.out.below HT.out.pos HB5.out)
      clear hb HR4 HB4 HT4
      go_wp2_with (refine wpList_load_row rfl 27 (.tmp 11) rfl bp rfl 27 PA (0, 0) _ HR5.out Tryd.underlying27 rfl (by rw [HPZ.out.1]; exact size_pos) ?_)
      refine (HMUk.out _ HT5.out).mono ?_
      rintro e w8 ⟨rfl, hb⟩
      have HR8 := Lib.hid (HR5.out.later hb)
      have HB8 := Lib.hid (HB5.out.trans (hb.mono HB5.out.size))
      clear hb HR5 HB5 HT5
      go_upto_region 10 with fail
      refine wp_region_reliesT (ChF [.agg PA, .int .u8 (k : Int), .int .u8 ((1 - k : Nat) : Int), .slice a2 len2 cap2, undef, undef, .tuple #[.int .i64 (y : Int), .int .i64 0], .tuple #[.int .i64 (y : Int), .int .i64 0], .int .i64 (y : Int), .int .i64 0, .int .i64 (y : Int), .int .i64 0] [4, 5] [] (SdS w8 (1 - k) (lnd zs2))) (fun _ => true) (by kernel_rfl) (by kernel_rfl) (by kernel_rfl) (by kernel_rfl) (ChF.start ⟨(Below.refl _ _).drew, trivial⟩) ?obls ?fini
      case obls =>
        refine ⟨⟨?_, ?_⟩, ⟨?_, ?_⟩, ⟨?_, ?_⟩, ⟨?_, ?_⟩, ⟨?_, ?_⟩, ⟨?_, ?_⟩, ⟨?_, ?_⟩, ⟨?_, ?_⟩, ⟨?_, ?_⟩, ⟨?_, ?_⟩, ⟨?_, ?_⟩, ⟨?_, ?_⟩, trivial⟩
        · rfl
        · rintro ρ f W ⟨vs, us, hX⟩ hfi hw hcl hf
          have f11 : ρ (.tmp 11) = .pointer (some ⟨bp, 0, none⟩) := hf.1 11 (by simp [Op.operands])
          exact ok_value (exec_load_row 27 (.tmp 11) rfl bp f11 (HR8.out.later hX.st.1) Tryd.underlying27 rfl (by rw [HPZ.out.1]; exact size_pos)) (hX.pure 0 _ (by decide) (by decide) rfl hX.st)
        · rfl
        · rintro ρ f W ⟨vs, us, hX⟩ hfi hw hcl hf
          have f17 : ρ (.tmp 17) = .int .u8 (k : Int) := hf.1 17 (by simp [Op.operands])
          exact ok_value (v := .int .u8 (k : Int)) (w' := W) (by simp [execOp, f17]) (hX.pure 1 _ (by decide) (by decide) rfl hX.st)
        · rfl
        · rintro ρ f W ⟨vs, us, hX⟩ hfi hw hcl hf
          have f54 : ρ (.tmp 54) = .int .u8 (k : Int) := hX.val 1 _ _ (by decide) (by decide) (hf.1 54 (by simp [Op.operands])) rfl
          exact ok_value (v := .int .u8 ((1 - k : Nat) : Int)) (w' := W) (by simp [execOp, f54, hf.2.1, go_sem, HSB.out]) (hX.pure 2 _ (by decide) (by decide) rfl hX.st)
        · rfl
        · rintro ρ f W ⟨vs, us, hX⟩ hfi hw hcl hf
          have f4 : ρ (.tmp 4) = .slice a2 len2 cap2 := hf.1 4 (by simp [Op.operands])
          exact ok_value (v := .slice a2 len2 cap2) (w' := W) (by simp [execOp, f4]) (hX.pure 3 _ (by decide) (by decide) rfl hX.st)
        · rfl
        · rintro ρ f W ⟨vs, us, hX⟩ hfi hw hcl hf
          have f56 : ρ (.tmp 56) = .slice a2 len2 cap2 := hX.val 3 _ _ (by decide) (by decide) (hf.1 56 (by simp [Op.operands, Call.operands])) rfl
          have hl := hX.le1 0 4 rfl hfi
          obtain rfl := list0 hl
          obtain ⟨hbe, -⟩ := hX.st
          have hzW := HZ2.out.below (Nat.le_refl _) (HB8.out.trans (hbe.mono HB8.out.size))
          refine ok_call (f := 16) (args := #[.slice a2 len2 cap2]) (by simp [execOp, f56, hf.2.2.2, go_sem]) ?_
          refine (law16_lined a2 len2 cap2 zs2 W hzW).mono ?_
          rintro e w5 ⟨v, rfl, hown, hb⟩
          exact ⟨_, rfl, hX.step1 4 _ rfl (by decide) (by decide) ⟨hbe.trans (hb.mono hbe.size), LnM.lnd hown⟩⟩
        · rfl
        · rintro ρ f W ⟨vs, us, hX⟩ hfi hw hcl hf
          have f55 : ρ (.tmp 55) = .int .u8 ((1 - k : Nat) : Int) := hX.val 2 _ _ (by decide) (by decide) (hf.1 55 (by simp [Op.operands])) rfl
          have g57 := hX.get1 0 4 rfl (hf.1 57 (by simp [Op.operands]))
          have hl := hX.le1 1 5 rfl hfi
          obtain ⟨p, rfl⟩ : ∃ p, vs = [p] := ⟨_, list1 hl g57⟩
          obtain ⟨hbe, hln⟩ := hX.st
          obtain ⟨la, lcap, rfl, hl2, hl3⟩ := hln
          have f57 : ρ (.tmp 57) = .slice la (lnd zs2).length lcap := (Option.some.inj (show some (Value.slice la (lnd zs2).length lcap) = some (ρ (.tmp 57)) from g57)).symm
          exact ok_value (v := .agg (cmA (1 - k) 0 (.slice la (lnd zs2).length lcap))) (w' := W) (by simp [execOp, f55, f57, go_sem, cmA]) (hX.step1 5 _ rfl (by decide) (by decide) ⟨hbe, _, rfl, la, lcap, rfl, hl2, hl3⟩)
        · rfl
        · rintro ρ f W ⟨vs, us, hX⟩ hfi hw hcl hf
          have f53 : ρ (.tmp 53) = .agg PA := hX.val 0 _ _ (by decide) (by decide) (hf.1 53 (by simp [Op.operands, Call.operands])) rfl
          have g58 := hX.get1 1 5 rfl (hf.1 58 (by simp [Op.operands, Call.operands]))
          have hbw : Below w.heap.size w W := HB8.out.trans (hX.st.1.mono HB8.out.size)
          have hv := hX.st.2
          have hlen := hX.l1
          match vs, hX, hv, g58, hlen with
          | [_, v], hX, hv, g58, _ =>
            obtain ⟨p, rfl, la, lcap, rfl, h2, h3⟩ := hv
            have f58 : ρ (.tmp 58) = .agg (cmA (1 - k) 0 (.slice la (lnd zs2).length lcap)) := (Option.some.inj (show some (Value.agg (cmA (1 - k) 0 (.slice la (lnd zs2).length lcap))) = some (ρ (.tmp 58)) from g58)).symm
            have hh := HSU1.out W (HT.out.below HT.out.pos hbw) la lcap h2 h3
            refine ok_call (f := 17) (args := #[.agg PA, .agg (cmA (1 - k) 0 (.slice la (lnd zs2).length lcap))]) (by simp [execOp, f53, f58, hf.2.2.2, go_sem]) ?_
            refine hh.mono ?_
            rintro e w9 ⟨rfl, hb⟩
            exact ⟨_, rfl, hX.pure 6 _ (by decide) (by decide) rfl (SdS.below hX.st hb)⟩
        · rfl
        · rintro ρ f W ⟨vs, us, hX⟩ hfi hw hcl hf
          have f59 : ρ (.tmp 59) = .tuple #[.int .i64 (y : Int), .int .i64 0] := hX.val 6 _ _ (by decide) (by decide) (hf.1 59 (by simp [Op.operands])) rfl
          exact ok_value (v := .tuple #[.int .i64 (y : Int), .int .i64 0]) (w' := W) (by simp [execOp, f59]) (hX.pure 7 _ (by decide) (by decide) rfl hX.st)
        · rfl
        · rintro ρ f W ⟨vs, us, hX⟩ hfi hw hcl hf
          have f52 : ρ (.tmp 52) = .tuple #[.int .i64 (y : Int), .int .i64 0] := hX.val 7 _ _ (by decide) (by decide) (hf.1 52 (by simp [Op.operands])) rfl
          exact ok_value (v := .int .i64 (y : Int)) (w' := W) (by simp [execOp, f52, go_sem]) (hX.pure 8 _ (by decide) (by decide) rfl hX.st)
        · rfl
        · rintro ρ f W ⟨vs, us, hX⟩ hfi hw hcl hf
          have f52 : ρ (.tmp 52) = .tuple #[.int .i64 (y : Int), .int .i64 0] := hX.val 7 _ _ (by decide) (by decide) (hf.1 52 (by simp [Op.operands])) rfl
          exact ok_value (v := .int .i64 0) (w' := W) (by simp [execOp, f52, go_sem]) (hX.pure 9 _ (by decide) (by decide) rfl hX.st)
        · rfl
        · rintro ρ f W ⟨vs, us, hX⟩ hfi hw hcl hf
          have f60 : ρ (.tmp 60) = .int .i64 (y : Int) := hX.val 8 _ _ (by decide) (by decide) (hf.1 60 (by simp [Op.operands])) rfl
          exact ok_value (v := .int .i64 (y : Int)) (w' := W) (by simp [execOp, f60]) (hX.pure 10 _ (by decide) (by decide) rfl hX.st)
        · rfl
        · rintro ρ f W ⟨vs, us, hX⟩ hfi hw hcl hf
          have f61 : ρ (.tmp 61) = .int .i64 0 := hX.val 9 _ _ (by decide) (by decide) (hf.1 61 (by simp [Op.operands])) rfl
          exact ok_value (v := .int .i64 0) (w' := W) (by simp [execOp, f61]) (hX.pure 11 _ (by decide) (by decide) rfl hX.st)
      case fini =>
        rintro us w9 hlen ⟨vs, us', hX⟩
        have hl0 : us.length = 12 := hlen
        match us, hl0 with
        | [y0, y1, y2, y3, y4, y5, y6, y7, y8, y9, y10, y11], _ =>
          obtain rfl : y10 = _ := hX.val 10 _ _ (by decide) (by decide) rfl rfl
          obtain rfl : y11 = _ := hX.val 11 _ _ (by decide) (by decide) rfl rfl
          have HST9 := Lib.hid hX.st.1
          have HR9 := Lib.hid (HR8.out.later HST9.out)
          have HB9 := Lib.hid (HB8.out.trans (HST9.out.mono HB8.out.size))
          clear hX hlen HST9 HR8 HB8
          simp only [putAll, List.zip_cons_cons, List.zip_nil_right, List.foldl_cons, List.foldl_nil]
          simp only [Act.put, List.setIfInBounds_toArray, List.set_cons_succ, List.set_cons_zero]
          have hsum := HSIk.out
          have hlt := HLT.out
          have hbl := HBLk.out
          have hsl := HSLk.out
          have hd1 : decide ((q : Int) < (x : Int) + (y : Int)) = false := by simp; omega
          have hd2 : decide (q < x + y) = false := by simp; omega
          go_wp2_with fail
          go_roundg (2 - (k + 1))
          case measure => omega
          case rel => exact ⟨k + 1, rfl, by omega, by rw [HSSk.out]; go_num, by go_num, HR9.out, HB9.out⟩
    · have hdk : decide (k < 2) = false := by simp; omega
      have hdK : decide ((k : Int) < 2) = false := by simp; omega
      obtain rfl : k = 2 := by omega
      rw [HSB2.out]
      have HAK := Lib.hid (cl_awake wr (HT.out.below HT.out.pos HB4.out))
      clear hlt
      go_wp2_with fail
      refine HAK.out.mono ?_
      rintro e w9 ⟨rfl, hb9⟩
      have HB9 := Lib.hid (HB4.out.trans (hb9.mono HB4.out.size))
      clear hb9
      go_wp2_with fail
      go_ret
      exact ⟨rfl, HB9.out⟩
end Go.Proofs.YtnbillhodbcfbaaDoor
