/- DmTw, DmTb, DmCo in one text. -/
import Derived.Test.YtnbillhodbcfbaaDoorMDrs
import Derived.Laws.EntriesVeiled
import Derived.Deep.Cut
import Derived.Deep.CutRange

/- The solver: within. -/
namespace Go.Proofs.YtnbillhodbcfbaaDoor
open Go.RowKit Go.Sort Go.Shelf Go.Maps Go.WideMaps
attribute [local go_sem] Oper.semAt_some

/-- the boxes of within -/
structure WI (bs b0 b9 b10 b11 s : Nat) (TA : Array Value) (l h best : Int) (W : World) : Prop where
  r4 : Row W b0 71 #[.pointer (some ⟨bs, 0, none⟩)]
  r5 : Row W (b0 + 1) 76 TA
  r6 : Row W (b0 + 1 + 1) 3 #[.int .i64 l]
  r7 : Row W (b0 + 1 + 1 + 1) 3 #[.int .i64 h]
  r9 : Row W b9 134 #[.int .u8 (s : Int)]
  r10 : Row W b10 136 #[.func (.func 87) #[.int .u8 (s : Int)] #[]]
  r11 : Row W b11 3 #[.int .i64 best]
theorem WI.but {bs b0 b9 b10 b11 s : Nat} {TA : Array Value} {l h best : Int} {W W' : World} (H : WI bs b0 b9 b10 b11 s TA l h best W) {B Bx : Nat} (hb : But B Bx W W') (h0 : b0 + 3 < b9) (h9 : b9 < B) (h10 : b9 < b10 ∧ b10 < B) (h11 : b9 < b11 ∧ b11 < B) (hx : Bx < b0 ∨ B ≤ Bx) : WI bs b0 b9 b10 b11 s TA l h best W' :=
  ⟨hb.row H.r4 (by omega) (by omega), hb.row H.r5 (by omega) (by omega), hb.row H.r6 (by omega) (by omega), hb.row H.r7 (by omega) (by omega), hb.row H.r9 (by omega) (by omega), hb.row H.r10 (by omega) (by omega), hb.row H.r11 (by omega) (by omega)⟩
theorem WI.below {bs b0 b9 b10 b11 s : Nat} {TA : Array Value} {l h best : Int} {W W' : World} (H : WI bs b0 b9 b10 b11 s TA l h best W) (hb : Below W.heap.size W W') : WI bs b0 b9 b10 b11 s TA l h best W' :=
  ⟨H.r4.later hb, H.r5.later hb, H.r6.later hb, H.r7.later hb, H.r9.later hb, H.r10.later hb, H.r11.later hb⟩
theorem But.after {B0 Bm B Bx : Nat} {W0 W W' : World} (h : But B0 Bm W0 W) (hb : But B Bx W W') (h1 : B0 ≤ B) (h2 : B0 ≤ Bx) : But B0 Bm W0 W' :=
  ⟨hb.os.trans h.os, hb.tape.trans h.tape, hb.output.trans h.output, Nat.le_trans h.size hb.size, fun k hk hn => (hb.same k (by omega) (by omega)).trans (h.same k hk hn)⟩
theorem tab_ne {tr bs bm n : Nat} {w : World} (h : Slv tr bs bm n w) (hT : Tab w) : 0 ≠ bm := by
  intro e
  obtain ⟨D, ⟨es, clock, hb, -⟩, -⟩ := h.map
  have := hT 0 (by decide)
  unfold World.cell? at this
  rw [e, hb] at this
  cases this
theorem Stays.less {K : Nat → Prop} {B : Nat} {X Y : World} (h : Stays K B X Y) : Stays (fun _ => False) B X Y := ⟨h.size, fun k hk => h.same k (.inr (hk.resolve_left fun h => h))⟩
theorem but_stays {K : Nat → Prop} {B bm : Nat} {X Y : World} (h : But X.heap.size bm X Y) (hk : ¬ K bm) (hb : bm < B) : Stays K B X Y :=
  ⟨h.size, fun k hk2 hl => h.same k hl fun e => by subst e; rcases hk2 with h2 | h2; exact hk h2; omega⟩
theorem Tab.but2 {B Bx : Nat} {W W' : World} (h : Tab W) (hb : But B Bx W W') (h1 : 0 < B) (h2 : 0 ≠ Bx) : Tab W' := hb.tab h h1 h2
/-- in a round of within -/
def WP (tr bs bm b0 b9 b10 b11 s : Nat) (TA : Array Value) (lo hi best : Int) (N B : Nat) (w W0 W : World) : Prop :=
  WI bs b0 b9 b10 b11 s TA lo hi best W ∧ Slv tr bs bm N W ∧ Tab W ∧ But b0 bm w W ∧ Stays (· = B) (B + 1) W0 W
/-- between the rounds of within -/
def WR (tr bs bm b0 b9 b10 b11 s : Nat) (TA : Array Value) (lo hi : Int) (q m n k : Nat) (P : List Nat) (w : World) (go : Bool) (W : World) : Prop :=
  ∃ l h best, WI bs b0 b9 b10 b11 s TA l h best W ∧ Srch s lo hi q P best l h ∧ decide (l < h) = go ∧ Slv tr bs bm (n + k * 5 ^ m) W ∧ Tab W ∧ But b0 bm w W
theorem WR.but {tr bs bm b0 b9 b10 b11 s : Nat} {TA : Array Value} {lo hi : Int} {q m n k : Nat} {P : List Nat} {w : World} {go : Bool} {W W' : World} (H : WR tr bs bm b0 b9 b10 b11 s TA lo hi q m n k P w go W) {B Bx : Nat} (hb : But B Bx W W') (h0 : b0 + 3 < b9 ∧ b9 < b10 ∧ b9 < b11 ∧ b10 ≠ b11) (h1 : b10 < B ∧ b11 < B) (hx : B ≤ Bx) (hbm : bs < b0 ∧ bm < b0) (_ : 0 < b0) : WR tr bs bm b0 b9 b10 b11 s TA lo hi q m n k P w go W' := by
  obtain ⟨l, h, best, hWI, hSr, hg, hSl, hTb, hBt⟩ := H
  exact ⟨l, h, best, hWI.but hb h0.1 (by omega) (by omega) (by omega) (by omega), hSr, hg, hSl.but hb (by omega) (by omega) (by omega) (by omega), hTb.but2 hb (by omega) (by omega), hBt.after hb (by omega) (by omega)⟩
set_option maxHeartbeats 2000000 in
set_option maxRecDepth 10000 in
theorem dm_within (tr m : Nat) (htr : tr < 256) (hW : WOk tr m) (hB : ∀ q, m = 4 * q → BOk tr q) : WOk tr (m + 1) := by
  intro bs bm n t q lo hi w hk hu he hm0 hm hq hlh h7 hlo hs hT hn
  have HW := Lib.hid hW
  have HB := Lib.hid hB
  have HK := Lib.hid hk
  have HU := Lib.hid hu
  have HE := Lib.hid he
  have HM := Lib.hid hm
  have HN := Lib.hid hn
  have HS := Lib.hid hs
  have HT := Lib.hid hT
  have HF := Lib.hid (show lo < hi ∧ hi ≤ 7 ∧ (q : Int) - 1000 ≤ lo ∧ q ≤ 4 ∧ tr < 256 from ⟨hlh, h7, hlo, hq, htr⟩)
  clear hW hB hk hu he hm0 hm hn hs hT hlh h7 hlo hq htr
  obtain ⟨TA, hTA⟩ : ∃ A, tbA t = A := ⟨_, rfl⟩
  have HTA := Lib.hid hTA
  have HTZ : Hid (TA.size = 10) := Lib.hid (by rw [← hTA]; rfl)
  rw [hTA]
  clear hTA
  refine (callsIn_wide (n := 9)).1 (callsIn_of_wp_marks Tryd.func83 rfl trivial ?_)
  simp only [Tryd.ntmps83, List.size_toArray, List.length_cons, List.length_nil, Nat.reduceAdd, Nat.reduceSub, Array.replicate_succ, Array.replicate_zero, List.push_toArray, List.append_toArray, List.nil_append, List.cons_append]
  refine wpIn_wide.2 ?_
  go_upto_region 1 with fail
  have HR4 : Hid (Row ((((w.alloc (.cells #[.pointer (some ⟨bs, 0, none⟩)] 71)).alloc (.cells TA 76)).alloc (.cells #[.int .i64 lo] 3)).alloc (.cells #[.int .i64 hi] 3)) w.heap.size 71 #[.pointer (some ⟨bs, 0, none⟩)]) := Lib.hid ((((Row.new w 71 #[.pointer (some ⟨bs, 0, none⟩)]).alloc _).alloc _).alloc _)
  have HR5 : Hid (Row ((((w.alloc (.cells #[.pointer (some ⟨bs, 0, none⟩)] 71)).alloc (.cells TA 76)).alloc (.cells #[.int .i64 lo] 3)).alloc (.cells #[.int .i64 hi] 3)) (w.heap.size + 1) 76 TA) := Lib.hid (((Row.new1 w (.cells #[.pointer (some ⟨bs, 0, none⟩)] 71) 76 TA).alloc _).alloc _)
  have HR6 : Hid (Row ((((w.alloc (.cells #[.pointer (some ⟨bs, 0, none⟩)] 71)).alloc (.cells TA 76)).alloc (.cells #[.int .i64 lo] 3)).alloc (.cells #[.int .i64 hi] 3)) (w.heap.size + 1 + 1) 3 #[.int .i64 lo]) := Lib.hid (by
    have := (Row.new1 (w.alloc (.cells #[.pointer (some ⟨bs, 0, none⟩)] 71)) (.cells TA 76) 3 #[.int .i64 lo]).alloc (.cells #[.int .i64 hi] 3)
    rwa [World.size_alloc] at this)
  have HR7 : Hid (Row ((((w.alloc (.cells #[.pointer (some ⟨bs, 0, none⟩)] 71)).alloc (.cells TA 76)).alloc (.cells #[.int .i64 lo] 3)).alloc (.cells #[.int .i64 hi] 3)) (w.heap.size + 1 + 1 + 1) 3 #[.int .i64 hi]) := Lib.hid (by
    have := Row.new1 ((w.alloc (.cells #[.pointer (some ⟨bs, 0, none⟩)] 71)).alloc (.cells TA 76)) (.cells #[.int .i64 lo] 3) 3 #[.int .i64 hi]
    rwa [World.size_alloc, World.size_alloc] at this)
  have htp := HT.out.pos
  have HB1 : Hid (Below w.heap.size w ((((w.alloc (.cells #[.pointer (some ⟨bs, 0, none⟩)] 71)).alloc (.cells TA 76)).alloc (.cells #[.int .i64 lo] 3)).alloc (.cells #[.int .i64 hi] 3))) := Lib.hid (((((Below.refl _ _).alloc (Nat.le_refl _) _).alloc (by simp) _).alloc (by simp; omega) _).alloc (by simp; omega) _)
  obtain ⟨b0, hb0⟩ : ∃ b, w.heap.size = b := ⟨_, rfl⟩
  have HB0 := Lib.hid hb0
  rw [hb0] at HR4 HR5 HR6 HR7 HB1 htp ⊢
  have HTP := Lib.hid htp
  clear hb0 htp
  generalize (((w.alloc (.cells #[.pointer (some ⟨bs, 0, none⟩)] 71)).alloc (.cells TA 76)).alloc (.cells #[.int .i64 lo] 3)).alloc (.cells #[.int .i64 hi] 3) = W1 at *
  go_upto_region 2 with (first
    | refine wpList_load_row rfl 76 (.tmp 5) rfl (b0 + 1) rfl 76 TA (0, 0) _ HR5.out Tryd.underlying76 rfl (by rw [HTZ.out]; exact size_tb) ?_)
  have HTU := Lib.hid (fun W => dm_turn t HK.out W)
  rw [HTA.out] at HTU
  refine (HTU.out _).mono ?_
  rintro e w1 ⟨rfl, hb1⟩
  have hb1 := Lib.hid hb1
  have ht4 := t.turn_lt
  obtain ⟨tn, htn⟩ : ∃ x, t.turn = x := ⟨_, rfl⟩
  have HTN := Lib.hid htn
  rw [htn] at ht4 ⊢
  clear htn
  have HSD := Lib.hid (fun W => dm_sideOf tn (by omega) W)
  obtain ⟨s, hs⟩ : ∃ s, tn % 2 = s := ⟨_, rfl⟩
  have HS2 := Lib.hid (show s < 2 by omega)
  have HSE := Lib.hid hs
  rw [hs] at HSD
  clear hs
  go_upto_region 2 with (refine (HSD.out _).mono ?_; rintro e w2 ⟨rfl, rfl⟩)
  have hl9 := Lib.hid (show b0 + 1 + 1 + 1 < w1.heap.size from (HR7.out.later hb1.out).lt)
  have HB1 := Lib.hid ((HB1.out.trans (hb1.out.mono (by have := HR4.out.lt; omega))).alloc (by have := hl9.out; omega) (.cells #[.int .u8 (s : Int)] 134))
  have HR4 := Lib.hid ((HR4.out.later hb1.out).alloc (.cells #[.int .u8 (s : Int)] 134))
  have HR5 := Lib.hid ((HR5.out.later hb1.out).alloc (.cells #[.int .u8 (s : Int)] 134))
  have HR6 := Lib.hid ((HR6.out.later hb1.out).alloc (.cells #[.int .u8 (s : Int)] 134))
  have HR7 := Lib.hid ((HR7.out.later hb1.out).alloc (.cells #[.int .u8 (s : Int)] 134))
  have HR9 := Lib.hid (Row.new w1 134 #[.int .u8 (s : Int)])
  obtain ⟨b9, hb9⟩ : ∃ b, w1.heap.size = b := ⟨_, rfl⟩
  have HL9 := Lib.hid (show b0 + 1 + 1 + 1 < b9 from by rw [← hb9]; exact hl9.out)
  rw [hb9] at HR9 ⊢
  clear hl9
  clear hb9
  generalize w1.alloc (.cells #[.int .u8 (s : Int)] 134) = W2 at *
  have HWO := Lib.hid (fun W => dm_worst s HS2.out W)
  obtain ⟨wo, hwo⟩ : ∃ x : Int, (if s = 0 then -1 else 7) = x := ⟨_, rfl⟩
  have HWE := Lib.hid hwo
  rw [hwo] at HWO
  clear hwo
  have hz78 : ∀ W, (zeroValue 136).run Tryd.prog W = .ok .nilFunc W := fun W => by kernel_rfl
  have hz3 : ∀ W, (zeroValue 3).run Tryd.prog W = .ok (.int .i64 0) W := fun W => by kernel_rfl
  have HZ := Lib.hid (And.intro hz78 hz3)
  clear hz78 hz3
  refine wp_region_reliesS (FB [.int .u8 (s : Int), .func (.func 87) #[.int .u8 (s : Int)] #[], .int .u8 (s : Int), .int .i64 wo, undef, undef, undef, undef] 4 6 5 7 136 3 #[.nilFunc] #[.func (.func 87) #[.int .u8 (s : Int)] #[]] #[.int .i64 0] #[.int .i64 wo] W2.heap.size (fun W => Below W2.heap.size W2 W)) (by kernel_rfl) (by kernel_rfl) (by kernel_rfl) (by kernel_rfl) (FB.start (Below.refl _ _).drew) ?obls ?fini
  case obls =>
    refine ⟨?_, ?_, ?_, ?_, ?_, ?_, ?_, ?_, trivial⟩
    · rintro ρ f W hF hfi hw hcl hf
      have f9 : ρ (.tmp 9) = .pointer (some ⟨b9, 0, none⟩) := hf.1 9 (by simp [Op.operands])
      have ck : W.cell? ⟨b9, 0, none⟩ = some (.int .u8 (s : Int)) := (HR9.out.later hF.st).cell 0
      exact ok_value (v := .int .u8 (s : Int)) (w' := W) (by simp [execOp, f9, go_sem, ck]) (hF.pure 0 _ (by decide) rfl (fun h => h) (Below.refl _ _))
    · rintro ρ f W hF hfi hw hcl hf
      have f16 : ρ (.tmp 16) = .int .u8 (s : Int) := hF.val 0 _ _ (by decide) (by decide) (hf.1 16 (by simp [Op.operands])) rfl
      exact ok_value (v := .func (.func 87) #[.int .u8 (s : Int)] #[]) (w' := W) (by simp [execOp, f16, go_sem]) (hF.pure 1 _ (by decide) rfl (fun h => h) (Below.refl _ _))
    · rintro ρ f W hF hfi hw hcl hf
      have f9 : ρ (.tmp 9) = .pointer (some ⟨b9, 0, none⟩) := hf.1 9 (by simp [Op.operands])
      have ck : W.cell? ⟨b9, 0, none⟩ = some (.int .u8 (s : Int)) := (HR9.out.later hF.st).cell 0
      exact ok_value (v := .int .u8 (s : Int)) (w' := W) (by simp [execOp, f9, go_sem, ck]) (hF.pure 2 _ (by decide) rfl (fun h => h) (Below.refl _ _))
    · rintro ρ f W hF hfi hw hcl hf
      have f18 : ρ (.tmp 18) = .int .u8 (s : Int) := hF.val 2 _ _ (by decide) (by decide) (hf.1 18 (by simp [Op.operands, Call.operands])) rfl
      refine ok_call (f := 88) (args := #[.int .u8 (s : Int)]) (by simp [execOp, f18, hf.2.2.2, go_sem]) ((HWO.out W).mono ?_)
      rintro e w5 ⟨rfl, rfl⟩
      exact ⟨_, rfl, hF.pure 3 _ (by decide) rfl (fun h => h) (Below.refl _ _)⟩
    · rintro ρ f W hF hfi hw hcl hf
      have hs6 : f 6 = none := by
        rcases h : f 6 with _ | v
        · rfl
        · have := hcl 6 (by rw [h]; rfl) 4 (by decide)
          rw [hfi] at this; cases this
      exact ok_value (exec_alloc1 136 rfl HZ.out.1) (hF.made W.heap.size hF.st.size (by decide) hs6 (Row.new W _ #[.nilFunc]) (hF.st.alloc hF.st.size _) ((Below.refl _ _).alloc (Nat.le_refl _) _))
    · rintro ρ f W hF hfi hw hcl hf
      have hs7 : f 7 = none := by
        rcases h : f 7 with _ | v
        · rfl
        · have := hcl 7 (by rw [h]; rfl) 5 (by decide)
          rw [hfi] at this; cases this
      exact ok_value (exec_alloc1 3 rfl HZ.out.2) (hF.swap.made W.heap.size hF.st.size (by decide) hs7 (Row.new W _ #[.int .i64 0]) (hF.st.alloc hF.st.size _) ((Below.refl _ _).alloc (Nat.le_refl _) _)).swap
    · rintro ρ f W hF hfi hw hcl hf
      have f17 := hF.val 1 _ _ (by decide) (by decide) (hf.1 17 (by simp [Op.operands])) rfl
      obtain ⟨b, hbB, h10, hrow⟩ := hF.blk _ (hf.1 10 (by simp [Op.operands]))
      rw [hfi] at hrow
      have hrow : Row W b 136 #[.nilFunc] := hrow
      have ck := hrow.cell 0
      have fk := hrow.frozen 0
      simp only [List.getElem?_toArray, List.getElem?_cons_zero] at ck
      refine ok_skip (w' := W.setCell ⟨b, 0, none⟩ (.func (.func 87) #[.int .u8 (s : Int)] #[])) (by simp [execOp, f17, h10, go_sem, ck, fk])
        (hF.store _ (by decide) rfl ((hf.1 10 (by simp [Op.operands])).trans (congrArg some h10)) hrow (hrow.set 0 _) hbB (hF.st.setCell hbB _) (fun k hk => Below.heap_setCell _ _ _ k hk))
    · rintro ρ f W hF hfi hw hcl hf
      have f19 := hF.val 3 _ _ (by decide) (by decide) (hf.1 19 (by simp [Op.operands])) rfl
      obtain ⟨b, hbB, h11, hrow⟩ := hF.blk' _ (hf.1 11 (by simp [Op.operands]))
      rw [hfi] at hrow
      have hrow : Row W b 3 #[.int .i64 0] := hrow
      have ck := hrow.cell 0
      have fk := hrow.frozen 0
      simp only [List.getElem?_toArray, List.getElem?_cons_zero] at ck
      refine ok_skip (w' := W.setCell ⟨b, 0, none⟩ (.int .i64 wo)) (by simp [execOp, f19, h11, go_sem, ck, fk])
        (hF.swap.store _ (by decide) rfl ((hf.1 11 (by simp [Op.operands])).trans (congrArg some h11)) hrow (hrow.set 0 _) hbB (hF.st.setCell hbB _) (fun k hk => Below.heap_setCell _ _ _ k hk)).swap
  case fini =>
    rintro vs w8 hlen hF
    have hl0 : vs.length = 8 := hlen
    match vs, hl0 with
    | [v0, v1, v2, v3, v4, v5, v6, v7], _ =>
      obtain ⟨b10, hb10, rfl, hrow10⟩ := hF.blk v4 rfl
      obtain ⟨b11, hb11, rfl, hrow11⟩ := hF.blk' v5 rfl
      have hst := hF.st
      simp only [putAll, List.zip_cons_cons, List.zip_nil_right, List.foldl_cons, List.foldl_nil]
      simp only [Act.put, List.setIfInBounds_toArray, List.set_cons_succ, List.set_cons_zero]
      have h1011 : b10 ≠ b11 := by
        intro e
        subst e
        have h1 : w8.heap[b10]? = _ := hrow10
        have h2 : w8.heap[b10]? = _ := hrow11
        rw [h1] at h2
        simp only [Option.some.injEq, Obj.cells.injEq] at h2
        exact absurd h2.2.1 (by decide)
      have HL1 := Lib.hid (show b9 < W2.heap.size from HR9.out.lt)
      have HI8 : Hid (WI bs b0 b9 b10 b11 s TA lo hi wo w8) := Lib.hid ⟨HR4.out.later hst, HR5.out.later hst, HR6.out.later hst, HR7.out.later hst, HR9.out.later hst, hrow10, hrow11⟩
      have HL := Lib.hid (show b0 + 3 < b9 ∧ b9 < b10 ∧ b9 < b11 ∧ b10 ≠ b11 from ⟨HL9.out, by have := HL1.out; omega, by have := HL1.out; omega, h1011⟩)
      have HB8 := Lib.hid (HB1.out.trans (hst.mono (by have := HL1.out; have := HL9.out; omega)))
      have HT8 := Lib.hid (HT.out.below HT.out.pos (show Below w.heap.size w w8 by rw [HB0.out]; exact HB8.out))
      have HS8 := Lib.hid (HS.out.below (show Below w.heap.size w w8 by rw [HB0.out]; exact HB8.out))
      have HBM := Lib.hid (show bs < b0 ∧ bm < b0 by have := HS.out.lt; rw [HB0.out] at this; exact this)
      clear hst hrow10 hrow11 hF hlen hb10 hb11 h1011 HR4 HR5 HR6 HR7 HR9 HB1 HL9 HL1 HSD HTU HWO HZ HT HS
      have HDI := Lib.hid (dm_distinct t HK.out w8 HT8.out)
      rw [HTA.out] at HDI
      go_wp2_with (refine wpList_load_row rfl 76 (.tmp 5) rfl (b0 + 1) rfl 76 TA (0, 0) _ HI8.out.r5 Tryd.underlying76 rfl (by rw [HTZ.out]; exact size_tb) ?_)
      refine HDI.out.mono ?_
      rintro e w9 ⟨rfl, hb9⟩
      have HB9 := Lib.hid (HB8.out.trans (hb9.mono (by have := HI8.out.r5.lt; omega)))
      have HI9 := Lib.hid (HI8.out.below hb9)
      have HT9 := Lib.hid (HT8.out.below HT8.out.pos hb9)
      have HS9 := Lib.hid (HS8.out.below hb9)
      clear hb9 HDI HI8 HB8 HT8 HS8
      have hfw := fewM_w64 HK.out
      have HFL := Lib.hid (fewM_list HK.out)
      obtain ⟨fm, hfm⟩ : ∃ x, fewM t = x := ⟨_, rfl⟩
      have HFM := Lib.hid hfm
      rw [hfm] at hfw HFL ⊢
      clear hfm
      go_wp2_with fail
      refine (dm_cards fm _).mono ?_
      rintro e w10 ⟨rfl, rfl⟩
      go_wp2_with fail
      have HSZ := Lib.hid (show b10 < w9.heap.size ∧ b11 < w9.heap.size from ⟨HI9.out.r10.lt, HI9.out.r11.lt⟩)
      have HFIN : Hid (∀ (W : World) (best l h : Int) (D k : Nat) (P : List Nat), Srch s lo hi q P best l h → P ≠ [] → (∀ v ∈ P, v ∈ (t.few (othM t)).map (worth tr m t)) → (l < h → P = (t.few (othM t)).map (worth tr m t)) → k ≤ 4 → Slv tr bs bm (n + k * 5 ^ m) W → But b0 bm w W → w9.heap.size < D → W.heap[D]? = some (.deferred (some [])) → Found tr bs bm (n + (5 ^ (m + 1) - 1)) (m + 1) q lo hi t w (.returned (.int .i64 best)) (W.putObj D (.deferred none))) := Lib.hid (by
        intro W best l h D k P hSr hP0 hsub hall hk hSl hBt hD hK
        have hns : (s == 0) = t.ns := by unfold Tb.ns; rw [HTN.out, HSE.out]
        have hV := few_val tr m HK.out.pk HU.out (o := othM t) (fun x => othM_bit HK.out x)
        obtain ⟨hV1, hV2⟩ := bestL_spec t.ns (l := (t.few (othM t)).map (worth tr m t)) (by
          have h1 := few_some HK.out HE.out (by have := HM.out; omega)
          simpa using h1)
        rw [← hV] at hV1 hV2
        have hsm := hSr.some hP0
        have hbm := HBM.out
        have hl := HL.out
        have hsz := HSZ.out
        refine ⟨best, rfl, hSr.done HS2.out HF.out.1 hP0 (fun v hv => by rw [hns]; exact hV2 v (hsub v hv)) (fun hlt => by rw [hall hlt]; exact hV1), hsm.1, hsm.2, ?_, ?_⟩
        · refine (hSl.but (But.of_below (Bm := D) (below_putObj (B := w9.heap.size) _ (by omega) hK)) (by omega) (by omega) (by omega) (by omega)).mono ?_
          rw [Nat.pow_succ]
          have := Nat.mul_le_mul_right (5 ^ m) hk
          have := Nat.pow_pos (n := m) (show 0 < 5 by decide)
          omega
        · rw [HB0.out]
          exact hBt.trans (But.of_below (below_putObj _ (by omega) hK)))
      refine (wpIn_wide (n := 9)).1 ?_
      refine range_dm w9.heap.size fm (by decide) rfl (by simp) hfw (Row.new w9 _ _)
        (fun pre W => WR tr bs bm b0 b9 b10 b11 s TA lo hi q m n pre.length (pre.map fun x => worth tr m t x.val) w true W)
        (fun c pre x W => c = .exit 0 ∧ WR tr bs bm b0 b9 b10 b11 s TA lo hi q m n (pre.length + 1) ((pre ++ [x]).map fun x => worth tr m t x.val) w false W) ?shut ?shutx ?tab ?start ?body ?done ?stop
      case shut =>
        intro pre A B hA hb
        rw [World.size_alloc] at hb
        exact hA.but (hb.mono (Nat.le_succ _)) HL.out HSZ.out (Nat.le_refl _) HBM.out HTP.out
      case shutx =>
        rintro c pre x A B ⟨hc, hA⟩ hb
        rw [World.size_alloc] at hb
        exact ⟨hc, hA.but (hb.mono (Nat.le_succ _)) HL.out HSZ.out (Nat.le_refl _) HBM.out HTP.out⟩
      case tab => exact fun pre A ⟨_, _, _, _, _, _, _, hT, _⟩ => hT
      case start =>
        have hb := (Below.refl w9.heap.size w9).alloc (Nat.le_refl _) (.cells #[.int .u64 (fm : Int)] 22)
        refine ⟨lo, hi, wo, HI9.out.below hb, ?_, decide_eq_true HF.out.1, ?_, HT9.out.below HT9.out.pos hb, But.of_below (HB9.out.alloc (by have := HL.out; have := HSZ.out; omega) _)⟩
        · rw [← HWE.out]; exact Srch.start ..
        · rw [List.length_nil, Nat.zero_mul, Nat.add_zero]; exact HS9.out.below hb
      case body =>
        rintro l pre suf x W hx hI hsz
        simp only [inFrame, List.setIfInBounds_toArray, List.set_cons_succ, List.set_cons_zero]
        obtain ⟨lo1, hi1, best, hWI, hSr, hlt, hSl, hTb, hBt⟩ := hI
        have hxm : x.val ∈ t.few (othM t) := by
          rw [← HFL.out, hx]; simp
        obtain ⟨hc52, hleg⟩ := few_legal hxm
        have hcb := (legal_iff.1 hleg).1
        have hjq : pre.length + 1 ≤ q := by
          have h1 := few_len HK.out HE.out
          rw [HFM.out, hx] at h1
          simp at h1
          omega
        have HX := Lib.hid hx
        obtain ⟨c, hc⟩ : ∃ c, x.val = c := ⟨_, rfl⟩
        have HC := Lib.hid hc
        rw [hc] at hc52 hcb ⊢
        clear hc hx hxm hleg
        have HCB := Lib.hid (And.intro hc52 hcb)
        have HJQ := Lib.hid hjq
        have HSr := Lib.hid hSr
        have HLT := Lib.hid (of_decide_eq_true hlt)
        have HW0 : Hid (WP tr bs bm b0 b9 b10 b11 s TA lo1 hi1 best (n + pre.length * 5 ^ m) w9.heap.size w W W) := Lib.hid ⟨hWI, hSl, hTb, hBt, Stays.refl _ _ _⟩
        have HNN : Hid ((n + pre.length * 5 ^ m) + 5 ^ m < maxLen) := Lib.hid (by
          have h1 := HN.out
          have h2 := HF.out.2.2.2.1
          rw [Nat.pow_succ] at h1
          generalize 5 ^ m = X at *
          have h3 : pre.length * X ≤ 3 * X := Nat.mul_le_mul_right _ (by omega)
          omega)
        clear hcb hjq hSr hlt hWI hSl hTb hBt hsz
        gi_wp2_with fail
        refine (wpIn_region_reliesS (FC [.func (.func 87) #[.int .u8 (s : Int)] #[], .int .i64 best, .pointer (some ⟨bs, 0, none⟩), .agg TA, .int .u8 (c : Int), .int .i64 lo1, .int .i64 hi1]
          (WP tr bs bm b0 b9 b10 b11 s TA lo1 hi1 best (n + pre.length * 5 ^ m) w9.heap.size w W)
          (fun r A => WP tr bs bm b0 b9 b10 b11 s TA lo1 hi1 best (n + (pre.length + 1) * 5 ^ m) w9.heap.size w W A ∧ Fs lo1 hi1 (worth tr m t c) r ∧ 0 ≤ r ∧ r ≤ q)
          (fun r A => WP tr bs bm b0 b9 b10 b11 s TA lo1 hi1 (betterI s best r) (n + (pre.length + 1) * 5 ^ m) w9.heap.size w W A ∧ Fs lo1 hi1 (worth tr m t c) r ∧ 0 ≤ r ∧ r ≤ q) (betterI s best))
          (by kernel_rfl) (by kernel_rfl) (by kernel_rfl) (by kernel_rfl) (by kernel_rfl) (FC.start ?fstart) ?obls ?fini)
        case fstart => exact ⟨HW0.out.1.below (Below.refl _ _).drew, HW0.out.2.1.below (Below.refl _ _).drew, HW0.out.2.2.1.below HW0.out.2.2.1.pos (Below.refl _ _).drew, HW0.out.2.2.2.1.trans (But.of_below (Below.refl _ _).drew), HW0.out.2.2.2.2.trans (Stays.of_below (Below.refl _ _).drew)⟩
        case obls => --OBLS
            refine ⟨?_, ?_, ?_, ?_, ?_, ?_, ?_, ?_, ?_, ?_, trivial⟩
            · rintro ρ f W2 hF hfi hw hcl hf
              have h9 : f 9 = none := by
                rcases h : f 9 with _ | v
                · rfl
                · have := hcl 9 (by rw [h]; rfl) 0 (by decide)
                  rw [hfi] at this; cases this
              have hWI : WI bs b0 b9 b10 b11 s TA lo1 hi1 best W2 := (hF.look h9).elim (fun h => h.1) (fun ⟨_, h⟩ => h.1.1)
              have fp : ρ (.tmp 10) = .pointer (some ⟨b10, 0, none⟩) := hf.1 10 (by simp [Op.operands])
              have ck : W2.cell? ⟨b10, 0, none⟩ = some (.func (.func 87) #[.int .u8 (s : Int)] #[]) := hWI.r10.cell 0
              exact ok_value (v := .func (.func 87) #[.int .u8 (s : Int)] #[]) (w' := W2) (by simp [execOp, fp, go_sem, ck]) (hF.pure 0 _ (by decide) rfl)
            · rintro ρ f W2 hF hfi hw hcl hf
              have h9 : f 9 = none := by
                rcases h : f 9 with _ | v
                · rfl
                · have := hcl 9 (by rw [h]; rfl) 1 (by decide)
                  rw [hfi] at this; cases this
              have hWI : WI bs b0 b9 b10 b11 s TA lo1 hi1 best W2 := (hF.look h9).elim (fun h => h.1) (fun ⟨_, h⟩ => h.1.1)
              have fp : ρ (.tmp 11) = .pointer (some ⟨b11, 0, none⟩) := hf.1 11 (by simp [Op.operands])
              have ck : W2.cell? ⟨b11, 0, none⟩ = some (.int .i64 best) := hWI.r11.cell 0
              exact ok_value (v := .int .i64 best) (w' := W2) (by simp [execOp, fp, go_sem, ck]) (hF.pure 1 _ (by decide) rfl)
            · rintro ρ f W2 hF hfi hw hcl hf
              have h9 : f 9 = none := by
                rcases h : f 9 with _ | v
                · rfl
                · have := hcl 9 (by rw [h]; rfl) 2 (by decide)
                  rw [hfi] at this; cases this
              have hWI : WI bs b0 b9 b10 b11 s TA lo1 hi1 best W2 := (hF.look h9).elim (fun h => h.1) (fun ⟨_, h⟩ => h.1.1)
              have fp : ρ (.tmp 4) = .pointer (some ⟨b0, 0, none⟩) := hf.1 4 (by simp [Op.operands])
              have ck : W2.cell? ⟨b0, 0, none⟩ = some (.pointer (some ⟨bs, 0, none⟩)) := hWI.r4.cell 0
              exact ok_value (v := .pointer (some ⟨bs, 0, none⟩)) (w' := W2) (by simp [execOp, fp, go_sem, ck]) (hF.pure 2 _ (by decide) rfl)
            · rintro ρ f W2 hF hfi hw hcl hf
              have h9 : f 9 = none := by
                rcases h : f 9 with _ | v
                · rfl
                · have := hcl 9 (by rw [h]; rfl) 3 (by decide)
                  rw [hfi] at this; cases this
              have hWI : WI bs b0 b9 b10 b11 s TA lo1 hi1 best W2 := (hF.look h9).elim (fun h => h.1) (fun ⟨_, h⟩ => h.1.1)
              have fp : ρ (.tmp 5) = .pointer (some ⟨b0 + 1, 0, none⟩) := hf.1 5 (by simp [Op.operands])
              exact ok_value (exec_load_row 76 (.tmp 5) rfl (b0 + 1) fp hWI.r5 Tryd.underlying76 rfl (by rw [HTZ.out]; exact size_tb)) (hF.pure 3 _ (by decide) rfl)
            · rintro ρ f W2 hF hfi hw hcl hf
              have fp : ρ (.tmp 12) = .int .u8 (c : Int) := hf.1 12 (by simp [Op.operands])
              exact ok_value (v := .int .u8 (c : Int)) (w' := W2) (by simp [execOp, fp]) (hF.pure 4 _ (by decide) rfl)
            · rintro ρ f W2 hF hfi hw hcl hf
              have h9 : f 9 = none := by
                rcases h : f 9 with _ | v
                · rfl
                · have := hcl 9 (by rw [h]; rfl) 5 (by decide)
                  rw [hfi] at this; cases this
              have hWI : WI bs b0 b9 b10 b11 s TA lo1 hi1 best W2 := (hF.look h9).elim (fun h => h.1) (fun ⟨_, h⟩ => h.1.1)
              have fp : ρ (.tmp 6) = .pointer (some ⟨b0 + 1 + 1, 0, none⟩) := hf.1 6 (by simp [Op.operands])
              have ck : W2.cell? ⟨b0 + 1 + 1, 0, none⟩ = some (.int .i64 lo1) := hWI.r6.cell 0
              exact ok_value (v := .int .i64 lo1) (w' := W2) (by simp [execOp, fp, go_sem, ck]) (hF.pure 5 _ (by decide) rfl)
            · rintro ρ f W2 hF hfi hw hcl hf
              have h9 : f 9 = none := by
                rcases h : f 9 with _ | v
                · rfl
                · have := hcl 9 (by rw [h]; rfl) 6 (by decide)
                  rw [hfi] at this; cases this
              have hWI : WI bs b0 b9 b10 b11 s TA lo1 hi1 best W2 := (hF.look h9).elim (fun h => h.1) (fun ⟨_, h⟩ => h.1.1)
              have fp : ρ (.tmp 7) = .pointer (some ⟨b0 + 1 + 1 + 1, 0, none⟩) := hf.1 7 (by simp [Op.operands])
              have ck : W2.cell? ⟨b0 + 1 + 1 + 1, 0, none⟩ = some (.int .i64 hi1) := hWI.r7.cell 0
              exact ok_value (v := .int .i64 hi1) (w' := W2) (by simp [execOp, fp, go_sem, ck]) (hF.pure 6 _ (by decide) rfl)
            · rintro ρ f W2 hF hfi hw hcl hf
              obtain ⟨h8, h9, hWI, hSl, hTb, hBt, hSt⟩ := hF.pre hfi
              have f26 : ρ (.tmp 26) = .pointer (some ⟨bs, 0, none⟩) := hF.val 2 _ _ (hf.1 26 (by simp [Op.operands, Call.operands])) rfl
              have f27 : ρ (.tmp 27) = .agg TA := hF.val 3 _ _ (hf.1 27 (by simp [Op.operands, Call.operands])) rfl
              have f28 : ρ (.tmp 28) = .int .u8 (c : Int) := hF.val 4 _ _ (hf.1 28 (by simp [Op.operands, Call.operands])) rfl
              have f29 : ρ (.tmp 29) = .int .i64 lo1 := hF.val 5 _ _ (hf.1 29 (by simp [Op.operands, Call.operands])) rfl
              have f30 : ρ (.tmp 30) = .int .i64 hi1 := hF.val 6 _ _ (hf.1 30 (by simp [Op.operands, Call.operands])) rfl
              have hlo1 := HSr.out.lo
              have hhi1 := HSr.out.hi
              have hF1 := HF.out
              have hca := dm_after tr m hF1.2.2.2.2 HW.out HB.out bs bm (n + pre.length * 5 ^ m) t q c lo1 hi1 W2 HK.out HU.out HE.out HM.out hF1.2.2.2.1 HCB.out.1 HCB.out.2 HLT.out (by omega) (by omega) hSl hTb HNN.out
              rw [HTA.out] at hca
              refine ok_call (f := 67) (args := #[.pointer (some ⟨bs, 0, none⟩), .agg TA, .int .u8 (c : Int), .int .i64 lo1, .int .i64 hi1]) (by simp [execOp, f26, f27, f28, f29, f30, hf.2.2.2, go_sem]) (hca.mono ?_)
              rintro e w5 ⟨r, rfl, hfs, hr0, hrq, hs5, hb5⟩
              have hl := HL.out
              have hbm := HBM.out
              have l10 := hWI.r10.lt
              have l11 := hWI.r11.lt
              have hsz := HSZ.out
              refine ⟨_, rfl, hF.call (Nat.le_refl 7) hfi ⟨⟨hWI.but hb5 hl.1 (by omega) (by omega) (by omega) (by omega), ?_, hTb.but2 hb5 hTb.pos (tab_ne hSl hTb), hBt.trans (hb5.mono (by omega)), hSt.trans (but_stays hb5 (by show ¬ (bm = w9.heap.size); omega) (by omega))⟩, hfs, hr0, hrq⟩⟩
              rw [Nat.succ_mul, ← Nat.add_assoc]
              exact hs5
            · rintro ρ f W2 hF hfi hw hcl hf
              have f24 : ρ (.tmp 24) = .func (.func 87) #[.int .u8 (s : Int)] #[] := hF.val 0 _ _ (hf.1 24 (by simp [Op.operands, Call.operands])) rfl
              have f25 : ρ (.tmp 25) = .int .i64 best := hF.val 1 _ _ (hf.1 25 (by simp [Op.operands, Call.operands])) rfl
              have h7 := hf.1 31 (by simp [Op.operands, Call.operands])
              have h7 : f 7 = some (ρ (.tmp 31)) := h7
              obtain ⟨r, f31, -⟩ := hF.mid _ h7
              rw [f31] at h7
              refine ok_call (f := 87) (args := #[.int .u8 (s : Int), .int .i64 best, .int .i64 r]) (by simp [execOp, f24, f25, f31, go_sem]) ((dm_better s HS2.out best r W2).mono ?_)
              rintro e w5 ⟨rfl, rfl⟩
              exact ⟨_, rfl, hF.fun (Nat.le_refl 7) h7⟩
            · rintro ρ f W2 hF hfi hw hcl hf
              have h8 : f 8 = some (ρ (.tmp 32)) := hf.1 32 (by simp [Op.operands])
              have h7s := hcl 8 (by rw [h8]; rfl) 7 (by decide)
              obtain ⟨v7, h7⟩ := Option.isSome_iff_exists.1 h7s
              obtain ⟨r, rfl, h8r, hmid, -⟩ := hF.mid _ h7
              have f32 := h8r _ h8
              have f11 : ρ (.tmp 11) = .pointer (some ⟨b11, 0, none⟩) := hf.1 11 (by simp [Op.operands])
              obtain ⟨⟨hWI, hSl, hTb, hBt, hSt⟩, hfs, hr0, hrq⟩ := hmid hfi
              have ck : W2.cell? ⟨b11, 0, none⟩ = some (.int .i64 best) := hWI.r11.cell 0
              have fk := hWI.r11.frozen 0
              have hl := HL.out
              have hbm := HBM.out
              have l10 := hWI.r10.lt
              have l11 := hWI.r11.lt
              have hsz := HSZ.out
              have htp := HTP.out
              have hb6 := But.setCell (B := W2.heap.size) (Bm := b11) W2 0 (.int .i64 (betterI s best r))
              refine ok_skip (w' := W2.setCell ⟨b11, 0, none⟩ (.int .i64 (betterI s best r))) (by simp [execOp, f11, f32, go_sem, ck, fk]) (hF.store (Nat.le_refl 7) _ h7 ⟨⟨⟨?_, ?_, ?_, ?_, ?_, ?_, hWI.r11.set 0 _⟩, hSl.but hb6 (by omega) (by omega) (by omega) (by omega), hTb.but2 hb6 hTb.pos (by omega), hBt.after hb6 (by omega) (by omega), hSt.setCell (p := ⟨b11, 0, none⟩) (by show ¬ (b11 = w9.heap.size); omega) (by show b11 < w9.heap.size + 1; omega) _⟩, hfs, hr0, hrq⟩)
              · exact hWI.r4.other (show b0 ≠ b11 by omega)
              · exact hWI.r5.other (show b0 + 1 ≠ b11 by omega)
              · exact hWI.r6.other (show b0 + 1 + 1 ≠ b11 by omega)
              · exact hWI.r7.other (show b0 + 1 + 1 + 1 ≠ b11 by omega)
              · exact hWI.r9.other (show b9 ≠ b11 by omega)
              · exact hWI.r10.other (show b10 ≠ b11 by omega)
        --ENDOBLS
        case fini =>
          rintro vs w8 hlen hF
          have hl0 : vs.length = 10 := hlen
          match vs, hl0 with
          | [v0, v1, v2, v3, v4, v5, v6, v7, v8, v9], _ =>
            obtain ⟨r, rfl, -, -, hpost⟩ := hF.mid v7 rfl
            obtain ⟨hWP, hFs, hr0, hrq⟩ := hpost _ rfl
            simp only [putAll, List.zip_cons_cons, List.zip_nil_right, List.foldl_cons, List.foldl_nil]
            simp only [Act.put, List.setIfInBounds_toArray, List.set_cons_succ, List.set_cons_zero]
            obtain ⟨hWI, hSl, hTb, hBt, hSt⟩ := hWP
            have HR4 := Lib.hid hWI.r4
            have HR5 := Lib.hid hWI.r5
            have HR6 := Lib.hid hWI.r6
            have HR7 := Lib.hid hWI.r7
            have HR9 := Lib.hid hWI.r9
            have HR10 := Lib.hid hWI.r10
            have HR11 := Lib.hid hWI.r11
            have HSl8 := Lib.hid hSl
            have HTb8 := Lib.hid hTb
            have HBt8 := Lib.hid hBt
            have HSt8 := Lib.hid hSt
            have HSr8 := Lib.hid (HSr.out.step HS2.out (by have := HF.out.2.2.2.1; omega) HF.out.2.1 HLT.out hFs hr0 hrq)
            clear hWI hSl hTb hBt hSt hFs hr0 hrq hpost hF hlen
            obtain ⟨nb, hnb⟩ : ∃ x, betterI s best r = x := ⟨_, rfl⟩
            rw [hnb] at HR11 HSr8
            clear hnb
            have c9 : w8.cell? ⟨b9, 0, none⟩ = some (.int .u8 (s : Int)) := HR9.out.cell 0
            have c6 : w8.cell? ⟨b0 + 1 + 1, 0, none⟩ = some (.int .i64 lo1) := HR6.out.cell 0
            have c7 : w8.cell? ⟨b0 + 1 + 1 + 1, 0, none⟩ = some (.int .i64 hi1) := HR7.out.cell 0
            have c11 : w8.cell? ⟨b11, 0, none⟩ = some (.int .i64 nb) := HR11.out.cell 0
            have k6 := HR6.out.frozen 0
            have k7 := HR7.out.frozen 0
            have hl := HL.out
            have n67 : b0 + 1 + 1 ≠ b0 + 1 + 1 + 1 := by omega
            rcases (show s = 0 ∨ s = 1 by have := HS2.out; omega) with h0 | h0
            · simp only [h0, show ((0 : Nat) : Int) = 0 from rfl] at c9
              rw [if_pos h0, if_pos h0] at HSr8
              have H0 := Lib.hid h0
              clear h0 hl
              have HG : Hid (∀ v g, v = max lo1 nb → decide (v < hi1) = g → Stays (· = w9.heap.size) (w9.heap.size + 1) W (w8.setCell ⟨b0 + 1 + 1, 0, none⟩ (.int .i64 v)) ∧
                  WR tr bs bm b0 b9 b10 b11 s TA lo hi q m n (pre.length + 1) (List.map (fun x => worth tr m t x.val) pre ++ [worth tr m t x.val]) w g (w8.setCell ⟨b0 + 1 + 1, 0, none⟩ (.int .i64 v))) := Lib.hid (by
                rintro v g rfl hg
                have hl := HL.out
                have hbm := HBM.out
                have l11 := HR11.out.lt
                have l10 := HR10.out.lt
                have hsz := HSZ.out
                have htp := HTP.out
                have hb6 := But.setCell (B := w8.heap.size) (Bm := b0 + 1 + 1) w8 0 (.int .i64 (max lo1 nb))
                refine ⟨HSt8.out.setCell (p := ⟨b0 + 1 + 1, 0, none⟩) (by show ¬ (b0 + 1 + 1 = w9.heap.size); omega) (by show b0 + 1 + 1 < w9.heap.size + 1; omega) _, max lo1 nb, hi1, nb,
                  ⟨HR4.out.other (show b0 ≠ b0 + 1 + 1 by omega), HR5.out.other (show b0 + 1 ≠ b0 + 1 + 1 by omega), HR6.out.set 0 _, HR7.out.other (show b0 + 1 + 1 + 1 ≠ b0 + 1 + 1 by omega), HR9.out.other (show b9 ≠ b0 + 1 + 1 by omega), HR10.out.other (show b10 ≠ b0 + 1 + 1 by omega), HR11.out.other (show b11 ≠ b0 + 1 + 1 by omega)⟩,
                  by rw [HC.out]; exact HSr8.out, hg, HSl8.out.but hb6 (by omega) (by omega) (by omega) (by omega), HTb8.out.but2 hb6 HTb8.out.pos (by omega), HBt8.out.after hb6 (by omega) (by omega)⟩)
              gi_wp2_with fail
              all_goals
                rename_i hA
                split at hA
                all_goals first
                  | exact HG.out _ _ (by omega) (by simp; omega)
                  | exact ⟨(HG.out _ false (by omega) (by simp; omega)).1.less, (HG.out _ false (by omega) (by simp; omega)).2⟩
                  | omega
            · simp only [h0, show ((1 : Nat) : Int) = 1 from rfl] at c9
              rw [if_neg (by omega), if_neg (by omega)] at HSr8
              have H0 := Lib.hid h0
              clear h0 hl
              have HG : Hid (∀ v g, v = min hi1 nb → decide (lo1 < v) = g → Stays (· = w9.heap.size) (w9.heap.size + 1) W (w8.setCell ⟨b0 + 1 + 1 + 1, 0, none⟩ (.int .i64 v)) ∧
                  WR tr bs bm b0 b9 b10 b11 s TA lo hi q m n (pre.length + 1) (List.map (fun x => worth tr m t x.val) pre ++ [worth tr m t x.val]) w g (w8.setCell ⟨b0 + 1 + 1 + 1, 0, none⟩ (.int .i64 v))) := Lib.hid (by
                rintro v g rfl hg
                have hl := HL.out
                have hbm := HBM.out
                have l11 := HR11.out.lt
                have l10 := HR10.out.lt
                have hsz := HSZ.out
                have htp := HTP.out
                have hb6 := But.setCell (B := w8.heap.size) (Bm := b0 + 1 + 1 + 1) w8 0 (.int .i64 (min hi1 nb))
                refine ⟨HSt8.out.setCell (p := ⟨b0 + 1 + 1 + 1, 0, none⟩) (by show ¬ (b0 + 1 + 1 + 1 = w9.heap.size); omega) (by show b0 + 1 + 1 + 1 < w9.heap.size + 1; omega) _, lo1, min hi1 nb, nb,
                  ⟨HR4.out.other (show b0 ≠ b0 + 1 + 1 + 1 by omega), HR5.out.other (show b0 + 1 ≠ b0 + 1 + 1 + 1 by omega), HR6.out.other (show b0 + 1 + 1 ≠ b0 + 1 + 1 + 1 by omega), HR7.out.set 0 _, HR9.out.other (show b9 ≠ b0 + 1 + 1 + 1 by omega), HR10.out.other (show b10 ≠ b0 + 1 + 1 + 1 by omega), HR11.out.other (show b11 ≠ b0 + 1 + 1 + 1 by omega)⟩,
                  by rw [HC.out]; exact HSr8.out, hg, HSl8.out.but hb6 (by omega) (by omega) (by omega) (by omega), HTb8.out.but2 hb6 HTb8.out.pos (by omega), HBt8.out.after hb6 (by omega) (by omega)⟩)
              gi_wp2_with fail
              all_goals
                rename_i hA
                split at hA
                all_goals first
                  | exact HG.out _ _ (by omega) (by simp; omega)
                  | exact ⟨(HG.out _ false (by omega) (by simp; omega)).1.less, (HG.out _ false (by omega) (by simp; omega)).2⟩
                  | omega
      case done =>
        rintro D W hD ⟨lo1, hi1, best, hWI, hSr, hlt, hSl, hTb, hBt⟩ hK
        have HWI := Lib.hid hWI
        have HSr := Lib.hid hSr
        have HLT := Lib.hid (of_decide_eq_true hlt)
        have HSl := Lib.hid hSl
        have HBt := Lib.hid hBt
        have HK3 := Lib.hid hK
        have c11 : W.cell? ⟨b11, 0, none⟩ = some (.int .i64 best) := hWI.r11.cell 0
        have HD := Lib.hid hD
        clear hWI hSr hlt hSl hTb hBt hK hD
        go_wp2_with fail
        refine ⟨by simp, .inl ⟨_, _, rfl, run_takeDeferred HK3.out, ?_⟩⟩
        refine ⟨_, results_tmp rfl _ _ _, ?_⟩
        have hmap : (bitsList fm).map (fun x => worth tr m t x.val) = (t.few (othM t)).map (worth tr m t) := by rw [← HFL.out, List.map_map]; rfl
        have hd := HD.out
        rw [World.size_alloc] at hd
        exact HFIN.out W best lo1 hi1 D _ _ HSr.out (by rw [hmap]; simpa using few_some HK.out HE.out (by have := HM.out; omega)) (fun v hv => by rw [hmap] at hv; exact hv) (fun _ => hmap) (by have := few_len HK.out HE.out; rw [HFM.out] at this; have := HF.out.2.2.2.1; omega) HSl.out HBt.out hd HK3.out
      case stop =>
        rintro D c pre suf x W hD hx ⟨rfl, lo1, hi1, best, hWI, hSr, hlt, hSl, hTb, hBt⟩ hK
        have HX := Lib.hid hx
        have HWI := Lib.hid hWI
        have HSr := Lib.hid hSr
        have HLT := Lib.hid (of_decide_eq_false hlt)
        have HSl := Lib.hid hSl
        have HBt := Lib.hid hBt
        have HK3 := Lib.hid hK
        have c11 : W.cell? ⟨b11, 0, none⟩ = some (.int .i64 best) := hWI.r11.cell 0
        have HD := Lib.hid hD
        clear hWI hSr hlt hSl hTb hBt hK hD hx
        gi_wp2_with fail
        go_wp2_with fail
        refine ⟨by simp, .inl ⟨_, _, rfl, run_takeDeferred HK3.out, ?_⟩⟩
        refine ⟨_, results_tmp rfl _ _ _, ?_⟩
        have hmap : (bitsList fm).map (fun x => worth tr m t x.val) = (t.few (othM t)).map (worth tr m t) := by rw [← HFL.out, List.map_map]; rfl
        have hd := HD.out
        rw [World.size_alloc] at hd
        refine HFIN.out W best lo1 hi1 D _ _ HSr.out (by simp) (fun v hv => ?_) (fun hlt => absurd hlt (by have := HLT.out; omega)) ?_ HSl.out HBt.out hd HK3.out
        · rw [← hmap, HX.out]
          obtain ⟨y, hy, rfl⟩ := List.mem_map.1 hv
          exact List.mem_map.2 ⟨y, by rw [List.append_cons]; exact List.mem_append_left _ hy, rfl⟩
        · have h1 := few_len HK.out HE.out
          have h2 := HF.out.2.2.2.1
          rw [HFM.out, HX.out] at h1
          simp at h1
          omega
end Go.Proofs.YtnbillhodbcfbaaDoor

/- The solver: between. -/
namespace Go.Proofs.YtnbillhodbcfbaaDoor
open Go.RowKit Go.Sort Go.Shelf Go.Maps Go.WideMaps

theorem bndR_inv {v : Value} {d : DataW Unit} {ps : List MemPlace} (h : bndR v = some (d, ps)) : ∃ a b : Int, v = bndV a b ∧ d = bndD a b := by
  unfold bndR at h
  split at h
  · simp only [Option.some.injEq, Prod.mk.injEq] at h
    exact ⟨_, _, rfl, h.1.symm⟩
  · cases h
theorem bndD_inj {a b a' b' : Int} (h : bndD a b = bndD a' b') : a = a' ∧ b = b' := by
  unfold bndD at h
  simpa using h
/-- what a look into the map gives -/
theorem look_bnd {W0 : World} {bm n : Nat} {D : DataW Unit} (h0 : W0.ownsMap Tryd.prog 130 bndR bm n D) {h : Nat → Nat} {ld : Nat} (hh : In52 h) (hl : ld < 4) :
    ∃ a b : Int, D.atKey (keyL h ld) (bndD 0 0) = bndD a b ∧ ∀ W, W.ownsMap Tryd.prog 130 bndR bm n D → (Instr.lookup 106 (.map (some bm)) (keyV h ld) true).run Tryd.prog W = .ok (.tuple #[bndV a b, .bool (has D (keyL h ld))]) W := by
  have hk := keyOf_key h ld (fun i hi => hh.w64 hi) (by omega)
  obtain ⟨v, ps, -, hv⟩ := h0.look_ok key_keyed Tryd.underlying106 (zero_bnd W0) (bndR_at 0 0) hk
  obtain ⟨a, b, rfl, hd⟩ := bndR_inv hv
  refine ⟨a, b, hd, fun W hW => ?_⟩
  obtain ⟨v2, ps2, hrun, hv2⟩ := hW.look_ok key_keyed Tryd.underlying106 (zero_bnd W) (bndR_at 0 0) hk
  obtain ⟨a2, b2, rfl, hd2⟩ := bndR_inv hv2
  have e : D.atKey (keyL h ld) (.agg [.lit (.int .i64 0), .lit (.int .i64 0)]) = _ := hd
  rw [e] at hd2
  obtain ⟨rfl, rfl⟩ := bndD_inj hd2
  exact hrun
theorem shr4_val {h : Nat → Nat} (hh : In52 h) (ld tr n : Nat) : val tr n ⟨shr4 h, ld, []⟩ = val tr n ⟨h, ld, []⟩ := iso_val n (shr4_iso hh ld tr) ⟨hh, by simp⟩ ⟨shr4_in hh, by simp⟩
theorem evn_zero {h : Nat → Nat} {ld q : Nat} (hl : ld < 4) (he : Evn q ⟨h, ld, []⟩) : pop (h 0) = q := by
  have := he ((4 - ld) % 4) (Nat.mod_lt _ (by decide))
  rw [if_neg (by simp), show (Tb.mk h ld []).ld = ld from rfl, show (ld + (4 - ld) % 4) % 4 = 0 by omega] at this
  exact this
theorem size_key : (Tryd.prog.info? 130).map (·.size) = some 5 := by kernel_rfl
theorem size_bnd : (Tryd.prog.info? 132).map (·.size) = some 2 := by kernel_rfl
set_option maxHeartbeats 2000000 in
set_option maxRecDepth 10000 in
theorem dm_between (tr q : Nat) (htr : tr < 256) (hW : WOk tr (4 * q)) : BOk tr q := by
  intro bs bm n h ld lo hi w hh hu hld he hq hlh h7 hlo hs hT hn
  have HW := Lib.hid hW
  have HH := Lib.hid hh
  have HU := Lib.hid hu
  have HE := Lib.hid he
  have HN := Lib.hid hn
  have HS := Lib.hid hs
  have HT := Lib.hid hT
  have HP := Lib.hid (evn_zero hld he)
  have HF := Lib.hid (show lo < hi ∧ hi ≤ 7 ∧ (q : Int) - 1000 ≤ lo ∧ q ≤ 4 ∧ tr < 256 ∧ ld < 4 from ⟨hlh, h7, hlo, hq, htr, hld⟩)
  have HONE := Lib.hid (fun W => bits_ones (h 0) (hh.w64 (by decide)) W)
  rw [HP.out] at HONE
  clear hW hh hu he hn hs hT hlh h7 hlo htr
  have HR6 := Lib.hid (Row.new w 24 (deA h))
  have HB6 := Lib.hid ((Below.refl w.heap.size w).alloc (Nat.le_refl _) (.cells (deA h) 24))
  go_enter Tryd.func82, Tryd.ntmps82
  go_upto_region 1 with fail
  obtain ⟨b6, hb6⟩ : ∃ b, w.heap.size = b := ⟨_, rfl⟩
  have HB6' := Lib.hid hb6
  rw [hb6] at HR6 HB6 ⊢
  clear hb6
  generalize w.alloc (.cells (deA h) 24) = W6 at *
  have c0 : W6.cell? ⟨b6, 0, none⟩ = some (.int .u64 (h 0 : Int)) := HR6.out.cell 0
  have HS6 := Lib.hid (HS.out.below (show Below w.heap.size w W6 by rw [HB6'.out]; exact HB6.out))
  have HT6 := Lib.hid (HT.out.below HT.out.pos (show Below w.heap.size w W6 by rw [HB6'.out]; exact HB6.out))
  have HBM := Lib.hid (show bs < b6 ∧ bm < b6 by have := HS.out.lt; rw [HB6'.out] at this; exact this)
  by_cases h0 : q = 0
  · simp only [h0, show ((0 : Nat) : Int) = 0 from rfl] at HONE
    have H0 := Lib.hid h0
    clear h0 hq hld
    go_wp2_with (refine (HONE.out _).mono ?_; rintro e w2 ⟨rfl, rfl⟩)
    go_ret
    refine ⟨0, rfl, ?_, by omega, by omega, HS6.out.mono (Nat.le_add_right _ _), But.of_below (by rw [HB6'.out]; exact HB6.out)⟩
    rw [H0.out]
    exact Fs.exact
  · have hd : ((q : Int) == 0) = false := by rw [beq_eq_false_iff_ne]; omega
    have HQ := Lib.hid (show 0 < q by omega)
    clear h0
    have c1 : W6.cell? ⟨b6, 1, none⟩ = some (.int .u64 (h 1 : Int)) := HR6.out.cell 1
    have c2 : W6.cell? ⟨b6, 2, none⟩ = some (.int .u64 (h 2 : Int)) := HR6.out.cell 2
    have c3 : W6.cell? ⟨b6, 3, none⟩ = some (.int .u64 (h 3 : Int)) := HR6.out.cell 3
    have HSH := Lib.hid (dm_shrink h HH.out W6 HT6.out)
    go_wp2_with ((with_reducible refine (HONE.out _).mono ?_); rintro e w2 ⟨rfl, rfl⟩)
    refine HSH.out.mono ?_
    rintro e w2 ⟨rfl, hb2⟩
    have HB2 := Lib.hid (HB6.out.trans (hb2.mono (by have := HR6.out.lt; omega)))
    have HT2 := Lib.hid (HT6.out.below HT6.out.pos hb2)
    have HS2 := Lib.hid (HS6.out.below hb2)
    have HL2 := Lib.hid ((HR6.out.later hb2).lt)
    clear hb2 c0 c1 c2 c3 hd
    have HG := Lib.hid (shr4_ok HH.out HF.out.2.2.2.2.2)
    have HGU := Lib.hid (shr4_uniq HH.out HU.out)
    have HGE := Lib.hid (shr4_evn HH.out HE.out)
    have HGV := Lib.hid (fun n => shr4_val HH.out ld tr n)
    have HGI := Lib.hid (shr4_in HH.out)
    obtain ⟨g, hg⟩ : ∃ x, shr4 h = x := ⟨_, rfl⟩
    rw [hg] at HG HGU HGE HGV HGI ⊢
    clear hg
    simp only [deA]
    go_wp2_with fail
    have HRK := Lib.hid (Row.new w2 130 #[.int .u64 (g 0 : Int), .int .u64 (g 1 : Int), .int .u64 (g 2 : Int), .int .u64 (g 3 : Int), .int .u8 (ld : Int)])
    have ha := (Below.refl w2.heap.size w2).alloc (Nat.le_refl _) (.cells #[.int .u64 (g 0 : Int), .int .u64 (g 1 : Int), .int .u64 (g 2 : Int), .int .u64 (g 3 : Int), .int .u8 (ld : Int)] 130)
    have HB3 := Lib.hid (HB2.out.trans (ha.mono (by have := HL2.out; omega)))
    have HT3 := Lib.hid (HT2.out.below HT2.out.pos ha)
    have HS3 := Lib.hid (HS2.out.below ha)
    clear ha HB2 HT2 HS2 HR6 HB6 HT6 HS6 HSH HONE
    obtain ⟨b12, hb12⟩ : ∃ b, w2.heap.size = b := ⟨_, rfl⟩
    rw [hb12] at HRK HL2 ⊢
    clear hb12
    have HKV : Hid (keyV g ld = .agg #[.int .u64 (g 0 : Int), .int .u64 (g 1 : Int), .int .u64 (g 2 : Int), .int .u64 (g 3 : Int), .int .u8 (ld : Int)]) := Lib.hid rfl
    obtain ⟨KA, hKA⟩ : ∃ A : Array Value, #[.int .u64 (g 0 : Int), .int .u64 (g 1 : Int), .int .u64 (g 2 : Int), .int .u64 (g 3 : Int), .int .u8 (ld : Int)] = A := ⟨_, rfl⟩
    have HKA := Lib.hid hKA
    have HKZ : Hid (KA.size = 5) := Lib.hid (by rw [← hKA]; rfl)
    rw [hKA] at HRK HB3 HT3 HS3 HKV ⊢
    clear hKA
    generalize w2.alloc (.cells KA 130) = W3 at *
    obtain ⟨D, hD, hGood⟩ := HS3.out.map
    obtain ⟨a, b, hat, hlook⟩ := look_bnd hD HGI.out HF.out.2.2.2.2.2
    rw [HKV.out] at hlook
    have HLK := Lib.hid hlook
    have HD := Lib.hid hD
    have HGD := Lib.hid hGood
    have HAT := Lib.hid hat
    clear hD hGood hat hlook
    obtain ⟨ok, hok⟩ : ∃ x, has D (keyL g ld) = x := ⟨_, rfl⟩
    have HOK := Lib.hid hok
    rw [hok] at HLK
    clear hok
    obtain ⟨BV, hBV⟩ : ∃ x, bndV a b = x := ⟨_, rfl⟩
    have HBV := Lib.hid hBV
    rw [hBV] at HLK
    clear hBV
    refine wp_region_reliesS (FA [.pointer (some ⟨bs, 0, none⟩), .pointer (some ⟨bs, 0, none⟩), .pointer (some ⟨bs, 1, none⟩), .map (some bm), .agg KA, .tuple #[BV, .bool ok], .tuple #[BV, .bool ok], BV, .bool ok, undef, undef, .bool ok] 9 10 132 #[.int .i64 0, .int .i64 0] #[.int .i64 a, .int .i64 b] W3.heap.size (fun W => Below W3.heap.size W3 W)) (by kernel_rfl) (by kernel_rfl) (by kernel_rfl) (by kernel_rfl) (FA.start (Below.refl _ _).drew) ?obls ?fini
    case obls =>
      refine ⟨?_, ?_, ?_, ?_, ?_, ?_, ?_, ?_, ?_, ?_, ?_, ?_, trivial⟩
      · rintro ρ f W hF hfi hw hcl hf
        have f0 : ρ (.tmp 0) = .pointer (some ⟨bs, 0, none⟩) := hf.1 0 (by simp [Op.operands])
        exact ok_value (v := .pointer (some ⟨bs, 0, none⟩)) (w' := W) (by simp [execOp, f0]) (hF.pure 0 _ (by decide) (by decide) rfl (fun h => h) (Below.refl _ _))
      · rintro ρ f W hF hfi hw hcl hf
        have f0 : ρ (.tmp 26) = .pointer (some ⟨bs, 0, none⟩) := hF.val 0 _ _ (by decide) (hf.1 26 (by simp [Op.operands])) rfl
        exact ok_value (v := .pointer (some ⟨bs, 0, none⟩)) (w' := W) (by simp [execOp, f0]) (hF.pure 1 _ (by decide) (by decide) rfl (fun h => h) (Below.refl _ _))
      · rintro ρ f W hF hfi hw hcl hf
        have f0 : ρ (.tmp 27) = .pointer (some ⟨bs, 0, none⟩) := hF.val 1 _ _ (by decide) (hf.1 27 (by simp [Op.operands])) rfl
        exact ok_value (v := .pointer (some ⟨bs, 1, none⟩)) (w' := W) (by simp [execOp, f0, go_sem]) (hF.pure 2 _ (by decide) (by decide) rfl (fun h => h) (Below.refl _ _))
      · rintro ρ f W hF hfi hw hcl hf
        have f0 : ρ (.tmp 28) = .pointer (some ⟨bs, 1, none⟩) := hF.val 2 _ _ (by decide) (hf.1 28 (by simp [Op.operands])) rfl
        have ck : W.cell? ⟨bs, 1, none⟩ = some (.map (some bm)) := (HS3.out.row.later hF.st).cell 1
        exact ok_value (v := .map (some bm)) (w' := W) (by simp [execOp, f0, go_sem, ck]) (hF.pure 3 _ (by decide) (by decide) rfl (fun h => h) (Below.refl _ _))
      · rintro ρ f W hF hfi hw hcl hf
        have fp : ρ (.tmp 12) = .pointer (some ⟨b12, 0, none⟩) := hf.1 12 (by simp [Op.operands])
        exact ok_value (exec_load_row 130 (.tmp 12) rfl b12 fp (HRK.out.later hF.st) Tryd.underlying130 rfl (by rw [HKZ.out]; exact size_key)) (hF.pure 4 _ (by decide) (by decide) rfl (fun h => h) (Below.refl _ _))
      · rintro ρ f W hF hfi hw hcl hf
        have f0 : ρ (.tmp 29) = .map (some bm) := hF.val 3 _ _ (by decide) (hf.1 29 (by simp [Op.operands])) rfl
        have f1 : ρ (.tmp 30) = .agg KA := hF.val 4 _ _ (by decide) (hf.1 30 (by simp [Op.operands])) rfl
        have hlk := HLK.out W (owns_same HD.out (hF.st.block _ HD.out.lt))
        exact ok_value (v := .tuple #[BV, .bool ok]) (w' := W) (by simp [execOp, f0, f1, hlk]) (hF.pure 5 _ (by decide) (by decide) rfl (fun h => h) (Below.refl _ _))
      · rintro ρ f W hF hfi hw hcl hf
        have f0 := hF.val 5 _ _ (by decide) (hf.1 31 (by simp [Op.operands])) rfl
        exact ok_value (v := .tuple #[BV, .bool ok]) (w' := W) (by simp [execOp, f0]) (hF.pure 6 _ (by decide) (by decide) rfl (fun h => h) (Below.refl _ _))
      · rintro ρ f W hF hfi hw hcl hf
        have f0 := hF.val 6 _ _ (by decide) (hf.1 25 (by simp [Op.operands])) rfl
        exact ok_value (v := BV) (w' := W) (by simp [execOp, f0, go_sem]) (hF.pure 7 _ (by decide) (by decide) rfl (fun h => h) (Below.refl _ _))
      · rintro ρ f W hF hfi hw hcl hf
        have f0 := hF.val 6 _ _ (by decide) (hf.1 25 (by simp [Op.operands])) rfl
        exact ok_value (v := .bool ok) (w' := W) (by simp [execOp, f0, go_sem]) (hF.pure 8 _ (by decide) (by decide) rfl (fun h => h) (Below.refl _ _))
      · rintro ρ f W hF hfi hw hcl hf
        have hs10 : f 10 = none := by
          rcases h : f 10 with _ | v
          · rfl
          · have := hcl 10 (by rw [h]; rfl) 9 (by decide)
            rw [hfi] at this; cases this
        exact ok_value (exec_alloc 132 rfl (c := #[.int .i64 0, .int .i64 0]) (fun w => by kernel_rfl)) (hF.made W.heap.size hF.st.size (by decide) hs10 (Row.new W _ _) (hF.st.alloc hF.st.size _))
      · rintro ρ f W hF hfi hw hcl hf
        have f0 : ρ (.tmp 32) = .agg #[.int .i64 a, .int .i64 b] := (hF.val 7 _ _ (by decide) (hf.1 32 (by simp [Op.operands])) rfl).trans HBV.out.symm
        obtain ⟨c, hc, h13, hrow⟩ := hF.blk _ (hf.1 13 (by simp [Op.operands]))
        rw [hfi] at hrow
        exact ok_skip (exec_store_row 132 (.tmp 13) (.tmp 32) rfl c #[.int .i64 a, .int .i64 b] h13 f0 hrow size_bnd rfl (by simp [Value.oneCell']))
          (hF.store _ (by decide) rfl ((hf.1 13 (by simp [Op.operands])).trans (congrArg some h13)) (setRow_heap _ _ _ _ _ _ hrow) hc (below_setRow hF.st hc _))
      · rintro ρ f W hF hfi hw hcl hf
        have f0 := hF.val 8 _ _ (by decide) (hf.1 33 (by simp [Op.operands])) rfl
        exact ok_value (v := .bool ok) (w' := W) (by simp [execOp, f0]) (hF.pure 11 _ (by decide) (by decide) rfl (fun h => h) (Below.refl _ _))
    case fini =>
      rintro vs w8 hlen hF
      have hl0 : vs.length = 12 := hlen
      match vs, hl0 with
      | [v0, v1, v2, v3, v4, v5, v6, v7, v8, v9, v10, v11], _ =>
        obtain ⟨b13, hb13, rfl, hrow⟩ := hF.blk v9 rfl
        obtain rfl := hF.val 11 v11 _ (by decide) rfl rfl
        have hst := hF.st
        simp only [putAll, List.zip_cons_cons, List.zip_nil_right, List.foldl_cons, List.foldl_nil]
        simp only [Act.put, List.setIfInBounds_toArray, List.set_cons_succ, List.set_cons_zero]
        have HR13 : Hid (Row w8 b13 132 #[.int .i64 a, .int .i64 b]) := Lib.hid hrow
        have HB8 := Lib.hid hst
        have HL13 := Lib.hid (show W3.heap.size ≤ b13 from hb13)
        clear hrow hst hF hlen hb13
        have HVL := Lib.hid (val_le tr (4 * q) q ⟨g, ld, []⟩ (by simp) HGE.out (by simp))
        obtain ⟨V, hV⟩ : ∃ v, val tr (4 * q) ⟨g, ld, []⟩ = v := ⟨_, rfl⟩
        have HV := Lib.hid hV
        rw [hV] at HVL
        clear hV
        have HPG := Lib.hid (evn_zero HF.out.2.2.2.2.2 HGE.out)
        go_upto_if 35 with fail
        go_cut [14, 34, 35] from 36 (fun _ _ _ w' => ∃ a1 b1 : Int, Row w' b13 132 #[.int .i64 a1, .int .i64 b1] ∧ 0 ≤ a1 ∧ a1 ≤ V ∧ V ≤ b1 ∧ b1 ≤ q ∧ Below W3.heap.size W3 w')
        case first =>
          have hq0 := HQ.out
          cases hok : ok
          · go_wp2_with (refine wpList_store_row rfl 132 (.tmp 13) (.tmp 37) rfl b13 #[.int .i64 0, .int .i64 q] rfl rfl 132 _ HR13.out size_bnd rfl (by simp [Value.oneCell']) ?_)
            go_meet
            case rel => exact ⟨0, q, setRow_heap _ _ _ _ _ _ HR13.out, by omega, by omega, by have := HVL.out; omega, by omega, below_setRow HB8.out HL13.out _⟩
          · obtain ⟨a', b', hab, h1, h2, h3, h4⟩ := HGD.out g ld HGI.out HGU.out HF.out.2.2.2.2.2 (HOK.out.trans hok)
            rw [HAT.out] at hab
            obtain ⟨rfl, rfl⟩ := bndD_inj hab
            rw [HPG.out, HV.out] at h2 h3
            rw [HPG.out] at h4
            have HH := Lib.hid (And.intro h1 (And.intro h2 (And.intro h3 h4)))
            clear h1 h2 h3 h4 hab
            go_wp2_with fail
            go_meet
            case rel => exact ⟨a, b, HR13.out, HH.out.1, HH.out.2.1, HH.out.2.2.1, HH.out.2.2.2, HB8.out⟩
        obtain ⟨a1, b1, hr, h0a, haV, hVb, hbq, hbl⟩ := hcut
        have HR14 := Lib.hid hr
        have HAB := Lib.hid (show 0 ≤ a1 ∧ a1 ≤ V ∧ V ≤ b1 ∧ b1 ≤ q from ⟨h0a, haV, hVb, hbq⟩)
        have HBC := Lib.hid hbl
        have d0 : wc.cell? ⟨b13, 0, none⟩ = some (.int .i64 a1) := hr.cell 0
        have d1 : wc.cell? ⟨b13, 1, none⟩ = some (.int .i64 b1) := hr.cell 1
        have HFA := Lib.hid (HGV.out (4 * q))
        rw [HV.out] at HFA
        have HSC := Lib.hid (HS3.out.below hbl)
        have HRKc := Lib.hid (HRK.out.later hbl)
        have HBX := Lib.hid (show Below w.heap.size w wc from by rw [HB6'.out]; exact HB3.out.trans (hbl.mono (by have := HRK.out.lt; have := HL2.out; omega)))
        clear hr h0a haV hVb hbq hbl
        by_cases e1 : a1 = b1
        · have e1b : ((a1 : Int) == (b1 : Int)) = true := by rw [beq_iff_eq]; exact e1
          have E1 := Lib.hid e1
          clear e1
          go_wp2_with fail
          go_ret
          have hx := HAB.out
          have e1 := E1.out
          refine ⟨a1, rfl, ?_, by omega, by omega, HSC.out.mono (Nat.le_add_right _ _), But.of_below HBX.out⟩
          rw [← HFA.out, show (V : Int) = a1 by omega]
          exact Fs.exact
        · have e1b : ((a1 : Int) == (b1 : Int)) = false := by rw [beq_eq_false_iff_ne]; exact e1
          have E1 := Lib.hid e1
          clear e1
          by_cases e2 : hi ≤ a1
          · have E2 := Lib.hid e2
            go_wp2_with fail
            go_ret
            have hx := HAB.out
            refine ⟨a1, rfl, ?_, by omega, by omega, HSC.out.mono (Nat.le_add_right _ _), But.of_below HBX.out⟩
            rw [← HFA.out]
            exact Fs.low HF.out.1 E2.out (by omega)
          · have e2 : a1 < hi := by omega
            by_cases e3 : b1 ≤ lo
            · have E3 := Lib.hid e3
              go_wp2_with fail
              go_ret
              have hx := HAB.out
              refine ⟨b1, rfl, ?_, by omega, by omega, HSC.out.mono (Nat.le_add_right _ _), But.of_below HBX.out⟩
              rw [← HFA.out]
              exact Fs.high HF.out.1 E3.out (by omega)
            · have e3 : lo < b1 := by omega
              have E23 := Lib.hid (And.intro e2 e3)
              go_wp2_with fail
              obtain ⟨lo1, hlo1⟩ : ∃ x, (if lo < a1 then a1 else lo) = x := ⟨_, rfl⟩
              obtain ⟨hi1, hhi1⟩ : ∃ x, (if b1 < hi then b1 else hi) = x := ⟨_, rfl⟩
              refine wp_region_reliesS (FV [.int .i64 lo, .pointer (some ⟨b13, 0, none⟩), .int .i64 a1, .int .i64 lo1, .int .i64 hi, .pointer (some ⟨b13, 1, none⟩), .int .i64 b1, .int .i64 hi1, .int .i64 lo1, .int .i64 hi1] 100 (fun _ W => Below wc.heap.size wc W)) (by kernel_rfl) (by kernel_rfl) (by kernel_rfl) (by kernel_rfl) (FV.start _ _ (Below.refl _ _).drew) ?obls ?fini
              case obls =>
                refine ⟨?_, ?_, ?_, ?_, ?_, ?_, ?_, ?_, ?_, ?_, trivial⟩
                · rintro ρ f W hF hfi hw hcl hf
                  have f0 : ρ (.tmp 3) = .int .i64 lo := hf.1 3 (by simp [Op.operands])
                  exact ok_value (v := .int .i64 lo) (w' := W) (by simp [execOp, f0]) (hF.pure 0 _ (by decide) rfl (fun _ h => h))
                · rintro ρ f W hF hfi hw hcl hf
                  have f0 : ρ (.tmp 13) = .pointer (some ⟨b13, 0, none⟩) := hf.1 13 (by simp [Op.operands])
                  exact ok_value (v := .pointer (some ⟨b13, 0, none⟩)) (w' := W) (by simp [execOp, f0, go_sem]) (hF.pure 1 _ (by decide) rfl (fun _ h => h))
                · rintro ρ f W hF hfi hw hcl hf
                  have f0 : ρ (.tmp 58) = .pointer (some ⟨b13, 0, none⟩) := hF.val 1 _ _ (hf.1 58 (by simp [Op.operands])) rfl
                  have ck : W.cell? ⟨b13, 0, none⟩ = some (.int .i64 a1) := (HR14.out.later hF.st).cell 0
                  exact ok_value (v := .int .i64 a1) (w' := W) (by simp [execOp, f0, go_sem, ck]) (hF.pure 2 _ (by decide) rfl (fun _ h => h))
                · rintro ρ f W hF hfi hw hcl hf
                  have f0 := hF.val 0 _ _ (hf.1 57 (by simp [Op.operands, Call.operands])) rfl
                  have f1 := hF.val 2 _ _ (hf.1 59 (by simp [Op.operands, Call.operands])) rfl
                  exact ok_value (v := .int .i64 lo1) (w' := W) (by simp [f0, f1, go_sem, hlo1]) (hF.pure 3 _ (by decide) rfl (fun _ h => h))
                · rintro ρ f W hF hfi hw hcl hf
                  have f0 : ρ (.tmp 4) = .int .i64 hi := hf.1 4 (by simp [Op.operands])
                  exact ok_value (v := .int .i64 hi) (w' := W) (by simp [execOp, f0]) (hF.pure 4 _ (by decide) rfl (fun _ h => h))
                · rintro ρ f W hF hfi hw hcl hf
                  have f0 : ρ (.tmp 13) = .pointer (some ⟨b13, 0, none⟩) := hf.1 13 (by simp [Op.operands])
                  exact ok_value (v := .pointer (some ⟨b13, 1, none⟩)) (w' := W) (by simp [execOp, f0, go_sem]) (hF.pure 5 _ (by decide) rfl (fun _ h => h))
                · rintro ρ f W hF hfi hw hcl hf
                  have f0 : ρ (.tmp 62) = .pointer (some ⟨b13, 1, none⟩) := hF.val 5 _ _ (hf.1 62 (by simp [Op.operands])) rfl
                  have ck : W.cell? ⟨b13, 1, none⟩ = some (.int .i64 b1) := (HR14.out.later hF.st).cell 1
                  exact ok_value (v := .int .i64 b1) (w' := W) (by simp [execOp, f0, go_sem, ck]) (hF.pure 6 _ (by decide) rfl (fun _ h => h))
                · rintro ρ f W hF hfi hw hcl hf
                  have f0 := hF.val 4 _ _ (hf.1 61 (by simp [Op.operands, Call.operands])) rfl
                  have f1 := hF.val 6 _ _ (hf.1 63 (by simp [Op.operands, Call.operands])) rfl
                  exact ok_value (v := .int .i64 hi1) (w' := W) (by simp [f0, f1, go_sem, hhi1]) (hF.pure 7 _ (by decide) rfl (fun _ h => h))
                · rintro ρ f W hF hfi hw hcl hf
                  have f0 := hF.val 3 _ _ (hf.1 60 (by simp [Op.operands])) rfl
                  exact ok_value (v := .int .i64 lo1) (w' := W) (by simp [execOp, f0]) (hF.pure 8 _ (by decide) rfl (fun _ h => h))
                · rintro ρ f W hF hfi hw hcl hf
                  have f0 := hF.val 7 _ _ (hf.1 64 (by simp [Op.operands])) rfl
                  exact ok_value (v := .int .i64 hi1) (w' := W) (by simp [execOp, f0]) (hF.pure 9 _ (by decide) rfl (fun _ h => h))
              case fini =>
                rintro vs w9 hlen hF
                have hl0 : vs.length = 10 := hlen
                match vs, hl0 with
                | [x0, x1, x2, x3, x4, x5, x6, x7, x8, x9], _ =>
                  obtain rfl := hF.val 8 x8 _ rfl rfl
                  obtain rfl := hF.val 9 x9 _ rfl rfl
                  have hst := hF.st
                  simp only [putAll, List.zip_cons_cons, List.zip_nil_right, List.foldl_cons, List.foldl_nil]
                  simp only [Act.put, List.setIfInBounds_toArray, List.set_cons_succ, List.set_cons_zero]
                  have HLO : Hid (lo1 = max lo a1) := Lib.hid (by rw [← hlo1]; split <;> omega)
                  have HHI : Hid (hi1 = min hi b1) := Lib.hid (by rw [← hhi1]; split <;> omega)
                  have HS9 := Lib.hid (HSC.out.below hst)
                  have HB9 := Lib.hid (HBX.out.trans (hst.mono (by rw [HB6'.out]; have := HRK.out.lt; have := HL2.out; have := HR14.out.lt; have := HL13.out; omega)))
                  have HT9 := Lib.hid (HT.out.below HT.out.pos HB9.out)
                  have HR9 := Lib.hid (HR14.out.later hst)
                  have HK9 := Lib.hid (HRKc.out.later hst)
                  have hx := HAB.out
                  have hl1 := HLO.out
                  have hh1 := HHI.out
                  have hff := HF.out
                  have h23 := E23.out
                  have he1 := E1.out
                  have hq0 := HQ.out
                  have HWI := Lib.hid (HW.out bs bm n ⟨g, ld, []⟩ q lo1 hi1 w9 HG.out HGU.out HGE.out (by omega) (by simp) (by omega) (by omega) (by omega) (by omega) HS9.out HT9.out HN.out)
                  clear hst hF hlen hlo1 hhi1 d0 d1 hx hl1 hh1 hff h23 he1 hq0 e2 e3 e1b
                  have HRA : Hid (w9.rangeAt b12 0 [.int .u64 (g 0 : Int), .int .u64 (g 1 : Int), .int .u64 (g 2 : Int), .int .u64 (g 3 : Int)]) := Lib.hid (by
                    intro j v hj
                    have hj4 : j < 4 := by simpa using (List.getElem?_eq_some_iff.1 hj).1
                    rw [Nat.zero_add, HK9.out.cell j, ← HKA.out]
                    rcases (show j = 0 ∨ j = 1 ∨ j = 2 ∨ j = 3 by omega) with rfl | rfl | rfl | rfl <;> exact hj)
                  go_wp2_with (refine wpList_load_mid rfl 24 (.tmp 66) rfl b12 0 rfl _ _ HRA.out Tryd.underlying24 rfl size_de ?_)
                  refine HWI.out.mono ?_
                  rintro e w10 ⟨r, rfl, hfr, hr0, hrq, hs10, hb10⟩
                  have hbm := HBM.out
                  have hl2 := HL2.out
                  have hl13 := HL13.out
                  have hlk := HRK.out.lt
                  have hlk9 := HK9.out.lt
                  have hlr9 := HR9.out.lt
                  have HR10 := Lib.hid (hb10.row HR9.out HR9.out.lt (by omega))
                  have HK10 := Lib.hid (hb10.row HK9.out HK9.out.lt (by omega))
                  have HB10 := Lib.hid ((But.of_below (Bm := bm) HB9.out).trans (hb10.mono HB9.out.size))
                  have HS10 := Lib.hid hs10
                  have HFR := Lib.hid (show Fs lo1 hi1 V r ∧ 0 ≤ r ∧ r ≤ q from ⟨by rw [← HV.out]; exact hfr, hr0, hrq⟩)
                  have HLL := Lib.hid (show b12 < w10.heap.size ∧ b13 < w10.heap.size ∧ b6 < b12 ∧ b12 < b13 from ⟨HK10.out.lt, HR10.out.lt, hl2, by omega⟩)
                  clear hfr hr0 hrq hs10 hb10 hbm hl2 hl13 hlk hlk9 hlr9 HWI HRA
                  have k0 := HR10.out.frozen 0
                  have c0 : w10.cell? ⟨b13, 0, none⟩ = some (.int .i64 a1) := HR10.out.cell 0
                  go_upto_if 75 with fail
                  go_cut [75] from 76 (fun _ w' => ∃ a2 : Int, Row w' b13 132 #[.int .i64 a2, .int .i64 b1] ∧ 0 ≤ a2 ∧ a2 ≤ V ∧ But w10.heap.size b13 w10 w')
                  case first =>
                    have hx := HAB.out
                    have hfr := HFR.out
                    by_cases g1 : lo1 < r
                    · have G1 := Lib.hid g1
                      go_wp2_with fail
                      go_meet
                      case rel =>
                        have g1 := G1.out
                        have h4 : r ≤ V := by
                          by_cases g2 : r < hi1
                          · have := hfr.1.2.2 g1 g2; omega
                          · exact hfr.1.2.1 (by omega)
                        exact ⟨r, HR10.out.set 0 _, hfr.2.1, h4, But.setCell _ _ _⟩
                    · go_wp2_with fail
                      go_meet
                      case rel => exact ⟨a1, HR10.out, by omega, by omega, But.refl _ _ _⟩
                  obtain ⟨a2, hr11, ha20, ha2V, hb11⟩ := hcut
                  have HR11 := Lib.hid hr11
                  have HA2 := Lib.hid (And.intro ha20 ha2V)
                  have HB11 := Lib.hid hb11
                  clear hr11 ha20 ha2V hb11 c0 k0
                  have k1 := HR11.out.frozen 1
                  have c1 : wc.cell? ⟨b13, 1, none⟩ = some (.int .i64 b1) := HR11.out.cell 1
                  go_upto_if 80 with fail
                  go_cut [80] from 81 (fun _ w' => ∃ b2 : Int, Row w' b13 132 #[.int .i64 a2, .int .i64 b2] ∧ V ≤ b2 ∧ b2 ≤ q ∧ But w10.heap.size b13 w10 w')
                  case first =>
                    have hx := HAB.out
                    have hfr := HFR.out
                    by_cases g1 : r < hi1
                    · have G1 := Lib.hid g1
                      go_wp2_with fail
                      go_meet
                      case rel =>
                        have g1 := G1.out
                        have h4 : V ≤ r := by
                          by_cases g2 : lo1 < r
                          · have := hfr.1.2.2 g2 g1; omega
                          · exact hfr.1.1 (by omega)
                        exact ⟨r, HR11.out.set 1 _, h4, by omega, HB11.out.trans (But.setCell _ _ _)⟩
                    · go_wp2_with fail
                      go_meet
                      case rel => exact ⟨b1, HR11.out, by omega, by omega, HB11.out⟩
                  clear c1 k1
                  obtain ⟨b2, hr12, hb2V, hb2q, hb12⟩ := hcut
                  have HR12 := Lib.hid hr12
                  have HB2' := Lib.hid (And.intro hb2V hb2q)
                  have hll := HLL.out
                  have hbm := HBM.out
                  have HK12 := Lib.hid (hb12.row HK10.out hll.1 (by omega))
                  have HS12 := Lib.hid (HS10.out.but hb12 (by omega) (by omega) (by omega) (by omega))
                  have HB12 := Lib.hid (show But w.heap.size bm w wc from by
                    rw [HB6'.out]
                    have h1 := HB10.out
                    rw [HB6'.out] at h1
                    exact h1.after hb12 (by omega) (by omega))
                  clear hr12 hb2V hb2q hb12 hll hbm HR11 HB11
                  obtain ⟨D2, hD2, hG2⟩ := HS12.out.map
                  have HD2 := Lib.hid hD2
                  have HG2 := Lib.hid hG2
                  clear hD2 hG2
                  have HL6 := Lib.hid (show w.heap.size ≤ wc.heap.size from HB12.out.size)
                  go_wp2_with fail
                  refine wp_region_reliesS (FV [.pointer (some ⟨bs, 0, none⟩), .pointer (some ⟨bs, 0, none⟩), .pointer (some ⟨bs, 1, none⟩), .map (some bm), .agg KA, .agg #[.int .i64 a2, .int .i64 b2], undef] 6
                    (fun x W => if x then (Slv tr bs bm (n + 5 ^ (4 * q)) W ∧ But w.heap.size bm w W) else Below wc.heap.size wc W)) (by kernel_rfl) (by kernel_rfl) (by kernel_rfl) (by kernel_rfl) (FV.start _ _ (Below.refl _ _).drew) ?obls2 ?fini2
                  case obls2 =>
                    refine ⟨?_, ?_, ?_, ?_, ?_, ?_, ?_, trivial⟩
                    · rintro ρ f W hF hfi hw hcl hf
                      have f0 : ρ (.tmp 0) = .pointer (some ⟨bs, 0, none⟩) := hf.1 0 (by simp [Op.operands])
                      exact ok_value (v := .pointer (some ⟨bs, 0, none⟩)) (w' := W) (by simp [execOp, f0]) (hF.pure 0 _ (by decide) rfl fun _ h => h)
                    · rintro ρ f W hF hfi hw hcl hf
                      have f0 : ρ (.tmp 83) = .pointer (some ⟨bs, 0, none⟩) := hF.val 0 _ _ (hf.1 83 (by simp [Op.operands])) rfl
                      exact ok_value (v := .pointer (some ⟨bs, 0, none⟩)) (w' := W) (by simp [execOp, f0]) (hF.pure 1 _ (by decide) rfl fun _ h => h)
                    · rintro ρ f W hF hfi hw hcl hf
                      have f0 : ρ (.tmp 84) = .pointer (some ⟨bs, 0, none⟩) := hF.val 1 _ _ (hf.1 84 (by simp [Op.operands])) rfl
                      exact ok_value (v := .pointer (some ⟨bs, 1, none⟩)) (w' := W) (by simp [execOp, f0, go_sem]) (hF.pure 2 _ (by decide) rfl fun _ h => h)
                    · rintro ρ f W hF hfi hw hcl hf
                      have h6 : f 6 = none := by
                        rcases h : f 6 with _ | v
                        · rfl
                        · have := hcl 6 (by rw [h]; rfl) 3 (by decide)
                          rw [hfi] at this; cases this
                      have hst := hF.st
                      rw [h6] at hst
                      have hst : Below wc.heap.size wc W := hst
                      have f0 : ρ (.tmp 85) = .pointer (some ⟨bs, 1, none⟩) := hF.val 2 _ _ (hf.1 85 (by simp [Op.operands])) rfl
                      have ck : W.cell? ⟨bs, 1, none⟩ = some (.map (some bm)) := (HS12.out.row.later hst).cell 1
                      exact ok_value (v := .map (some bm)) (w' := W) (by simp [execOp, f0, go_sem, ck]) (hF.pure 3 _ (by decide) rfl fun _ h => h)
                    · rintro ρ f W hF hfi hw hcl hf
                      have h6 : f 6 = none := by
                        rcases h : f 6 with _ | v
                        · rfl
                        · have := hcl 6 (by rw [h]; rfl) 4 (by decide)
                          rw [hfi] at this; cases this
                      have hst := hF.st
                      rw [h6] at hst
                      have hst : Below wc.heap.size wc W := hst
                      have fp : ρ (.tmp 12) = .pointer (some ⟨b12, 0, none⟩) := hf.1 12 (by simp [Op.operands])
                      exact ok_value (exec_load_row 130 (.tmp 12) rfl b12 fp (HK12.out.later hst) Tryd.underlying130 rfl (by rw [HKZ.out]; exact size_key)) (hF.pure 4 _ (by decide) rfl fun _ h => h)
                    · rintro ρ f W hF hfi hw hcl hf
                      have h6 : f 6 = none := by
                        rcases h : f 6 with _ | v
                        · rfl
                        · have := hcl 6 (by rw [h]; rfl) 5 (by decide)
                          rw [hfi] at this; cases this
                      have hst := hF.st
                      rw [h6] at hst
                      have hst : Below wc.heap.size wc W := hst
                      have fp : ρ (.tmp 13) = .pointer (some ⟨b13, 0, none⟩) := hf.1 13 (by simp [Op.operands])
                      exact ok_value (exec_load_row 132 (.tmp 13) rfl b13 fp (HR12.out.later hst) Tryd.underlying132 rfl size_bnd) (hF.pure 5 _ (by decide) rfl fun _ h => h)
                    · rintro ρ f W hF hfi hw hcl hf
                      have hst := hF.st
                      rw [hfi] at hst
                      have hst : Below wc.heap.size wc W := hst
                      have f0 : ρ (.tmp 86) = .map (some bm) := hF.val 3 _ _ (hf.1 86 (by simp [Op.operands])) rfl
                      have f1 : ρ (.tmp 87) = .agg KA := hF.val 4 _ _ (hf.1 87 (by simp [Op.operands])) rfl
                      have f2 : ρ (.tmp 88) = .agg #[.int .i64 a2, .int .i64 b2] := hF.val 5 _ _ (hf.1 88 (by simp [Op.operands])) rfl
                      have hll := HLL.out
                      have hbm := HBM.out
                      have hl6 := HL6.out
                      rw [HB6'.out] at hl6
                      have hD := owns_same HD2.out (hst.block _ HD2.out.lt)
                      have hpw := Nat.pow_pos (n := 4 * q) (show 0 < 5 by decide)
                      have hnn := HN.out
                      have hk := keyOf_key g ld (fun i hi => HGI.out.w64 hi) (by have := HF.out; omega)
                      rw [HKV.out] at hk
                      obtain ⟨w14, hrun, hown, hgr⟩ := hD.update key_keyed Tryd.underlying106 (show n + (5 ^ (4 * q) - 1) < maxLen from Nat.lt_of_le_of_lt (Nat.add_le_add_left (Nat.sub_le _ _) _) hnn) hk (bndR_at a2 b2)
                      have hrun : (Instr.mapUpdate 106 (.map (some bm)) (.agg KA) (.agg #[.int .i64 a2, .int .i64 b2])).run Tryd.prog W = .ok () w14 := hrun
                      have hgood := HG2.out.put hD.isMap HGI.out HGU.out HF.out.2.2.2.2.2 HA2.out.1 (by rw [HPG.out, HV.out]; exact HA2.out.2) (by rw [HPG.out, HV.out]; exact HB2'.out.1) (by rw [HPG.out]; exact HB2'.out.2)
                      have hbu : But wc.heap.size bm wc w14 := (But.of_below hst).trans ⟨hgr.os, hgr.tape, hgr.output, hgr.size, fun k hk hn => hgr.block k (Nat.lt_of_lt_of_le hk hst.size) (by intro e; exact hn (by simpa using e))⟩
                      refine ok_skip (w' := w14) (by simp [execOp, f0, f1, f2, hrun]) (hF.write _ rfl hfi fun _ => ⟨⟨hbu.row HS12.out.row (by omega) ?_, _, ?_, hgood⟩, HB12.out.trans (hbu.mono HL6.out)⟩)
                      · intro e
                        have h1 := HS12.out.row
                        have h2 := HD2.out
                        obtain ⟨es, cl, h2, -⟩ := h2
                        have h1 : wc.heap[bs]? = _ := h1
                        rw [e, h2] at h1
                        cases h1
                      · rw [show n + 5 ^ (4 * q) = n + (5 ^ (4 * q) - 1) + 1 by omega]
                        exact hown
                  case fini2 =>
                    rintro vs w13 hlen hF
                    have hl0 : vs.length = 7 := hlen
                    match vs, hl0 with
                    | [y0, y1, y2, y3, y4, y5, y6], _ =>
                      have hst := hF.st
                      simp only [putAll, List.zip_cons_cons, List.zip_nil_right, List.foldl_cons, List.foldl_nil]
                      simp only [Act.put, List.setIfInBounds_toArray, List.set_cons_succ, List.set_cons_zero]
                      have HST := Lib.hid (show Slv tr bs bm (n + 5 ^ (4 * q)) w13 ∧ But w.heap.size bm w w13 from hst)
                      clear hst hF hlen
                      go_wp2_with fail
                      go_ret
                      have hf := HFR.out
                      have hx := HAB.out
                      refine ⟨r, rfl, ?_, hf.2.1, hf.2.2, HST.out.1, HST.out.2⟩
                      rw [← HFA.out]
                      have h1 := hf.1
                      rw [HLO.out, HHI.out] at h1
                      exact h1.narrow (by omega) (by omega)
end Go.Proofs.YtnbillhodbcfbaaDoor

/- The solver: within, between, after for tables of any number of cards. -/
namespace Go.Proofs.YtnbillhodbcfbaaDoor
open Go.RowKit Go.Sort Go.Shelf Go.Maps Go.WideMaps

theorem wok {tr : Nat} (htr : tr < 256) : ∀ m, WOk tr m
  | 0 => fun _ _ _ _ _ _ _ _ _ _ _ h => absurd h (Nat.lt_irrefl _)
  | m + 1 => dm_within tr m htr (wok htr m) fun q e => dm_between tr q htr (e ▸ wok htr m)
theorem bok {tr : Nat} (htr : tr < 256) (q : Nat) : BOk tr q := dm_between tr q htr (wok htr _)
theorem dm_aft {tr : Nat} (htr : tr < 256) (m bs bm n : Nat) (t : Tb) (q c : Nat) (lo hi : Int) (w : World) (hk : TbOk t) (hu : Uniq t) (he : Evn q t) (hm : m + 1 + t.cs.length = 4 * q) (hq : q ≤ 4)
    (hc : c < 52) (hb : (t.h t.turn).testBit c = true) (hlh : lo < hi) (h7 : hi ≤ 7) (hlo : (q : Int) - 1000 ≤ lo) (hs : Slv tr bs bm n w) (hT : Tab w) (hn : n + 5 ^ m < maxLen) :
    Calls Tryd.prog 67 #[.pointer (some ⟨bs, 0, none⟩), .agg (tbA t), .int .u8 (c : Int), .int .i64 lo, .int .i64 hi] w fun e w' =>
      ∃ r : Int, e = .returned (.int .i64 r) ∧ Fs lo hi (worth tr m t c) r ∧ 0 ≤ r ∧ r ≤ q ∧ Slv tr bs bm (n + 5 ^ m) w' ∧ But w.heap.size bm w w' :=
  dm_after tr m htr (wok htr m) (fun q _ => bok htr q) bs bm n t q c lo hi w hk hu he hm hq hc hb hlh h7 hlo hs hT hn
end Go.Proofs.YtnbillhodbcfbaaDoor
