/- The solver over this seat's program: choices. -/
import Derived.Test.YtnbillhodbcfbaaDoorMDpi
import Derived.Test.YtnbillhodbcfbaaDoorMDpe
namespace Go.Proofs.YtnbillhodbcfbaaDoor
open Go.RowKit Go.Sort Go.Shelf Go.Maps Go.WideMaps
attribute [local go_sem] Oper.semAt_some

/-- the boxes of choices -/
structure CI (bs b0 b5 b6 q : Nat) (TA : Array Value) (v : Value) (W : World) : Prop where
  r2 : Row W b0 71 #[.pointer (some ⟨bs, 0, none⟩)]
  r3 : Row W (b0 + 1) 76 TA
  r5 : Row W b5 31 #[v]
  r6 : Row W b6 3 #[.int .i64 (q : Int)]
variable {bs b0 b5 b6 q : Nat} {TA : Array Value} {v : Value} {W W' : World}
theorem CI.but (H : CI bs b0 b5 b6 q TA v W) {B Bx : Nat} (hb : But B Bx W W') (h0 : b0 + 1 < b5) (h5 : b5 < B) (h6 : b5 < b6 ∧ b6 < B) (hx : Bx < b0 ∨ B ≤ Bx) : CI bs b0 b5 b6 q TA v W' :=
  ⟨hb.row H.r2 (by omega) (by omega), hb.row H.r3 (by omega) (by omega), hb.row H.r5 (by omega) (by omega), hb.row H.r6 (by omega) (by omega)⟩
theorem CI.below (H : CI bs b0 b5 b6 q TA v W) (hb : Below W.heap.size W W') : CI bs b0 b5 b6 q TA v W' := ⟨H.r2.later hb, H.r3.later hb, H.r5.later hb, H.r6.later hb⟩
theorem build_ch (c : Nat) (r : Int) (W : World) : (Instr.build 38 #[(0, .int .u8 (c : Int)), (1, .int .i64 r)]).run Tryd.prog W = .ok (.agg #[.int .u8 (c : Int), .int .i64 r]) W := by kernel_rfl
theorem build_chs (c : Nat) (r : Int) (W : World) : (Instr.buildSlice 31 1 #[(0, .agg #[.int .u8 (c : Int), .int .i64 r])]).run Tryd.prog W = .ok (.slice (some ⟨W.heap.size, 0, none⟩) 1 1) (W.alloc (.cells #[.int .u8 (c : Int), .int .i64 r] 38)) := by kernel_rfl
/-- in a round of choices: the box holds v, the slice so far is u -/
def CP (tr bs bm b0 b5 b6 q : Nat) (TA : Array Value) (B N : Nat) (v u : Value) (l : List (Nat × Nat)) (w W0 W : World) : Prop :=
  CI bs b0 b5 b6 q TA v W ∧ OwnC W (B + 3) u l ∧ Slv tr bs bm N W ∧ Tab W ∧ But b0 bm w W ∧ Keep (fun k => k = B ∨ k = B + 1 ∨ k = B + 2) W0 W
/-- between the rounds of choices -/
def CR (tr bs bm b0 b5 b6 q : Nat) (TA : Array Value) (B N : Nat) (l : List (Nat × Nat)) (w W : World) : Prop :=
  ∃ v, CI bs b0 b5 b6 q TA v W ∧ OwnC W (B + 3) v l ∧ Slv tr bs bm N W ∧ Tab W ∧ But b0 bm w W
theorem CR.only {tr bm B N : Nat} {l : List (Nat × Nat)} {w : World} (H : CR tr bs bm b0 b5 b6 q TA B N l w W) (hb : Only (fun k => k = B ∨ k = B + 1 ∨ k = B + 2) W W') (h0 : b0 + 1 < b5 ∧ b5 < b6 ∧ b6 < B) (hm : bs < b0 ∧ bm < b0) (_ : 0 < b0) : CR tr bs bm b0 b5 b6 q TA B N l w W' := by
  obtain ⟨v, hCI, hOw, hSl, hTb, hBt⟩ := H
  have hs : ∀ k, k < B → W.heap[k]? ≠ none → W'.heap[k]? = W.heap[k]? := fun k hk hn => hb.same k (by
    rcases Nat.lt_or_ge k W.heap.size with h | h
    · exact h
    · exact absurd (Array.getElem?_eq_none h) hn) (by omega)
  have l2 := hCI.r2.lt
  have l3 := hCI.r3.lt
  have l5 := hCI.r5.lt
  have l6 := hCI.r6.lt
  refine ⟨v, ⟨hCI.r2.same (hb.same _ l2 (by omega)), hCI.r3.same (hb.same _ l3 (by omega)), hCI.r5.same (hb.same _ l5 (by omega)), hCI.r6.same (hb.same _ l6 (by omega))⟩, hOw.same fun g hg hg2 => hb.same g hg2 (by omega), hSl.same (hb.same _ hSl.lt.1 (by omega)) (hb.same _ hSl.lt.2 (by omega)), fun j hj => ?_, ⟨hb.os.trans hBt.os, hb.tape.trans hBt.tape, hb.output.trans hBt.output, Nat.le_trans hBt.size hb.size, fun k hk hn => (hb.same k (by omega) (by omega)).trans (hBt.same k hk hn)⟩⟩
  have := hTb j hj
  have hp := hTb.pos
  unfold World.cell? at this ⊢
  rw [hb.same _ hp (by show ¬ (0 = B ∨ _); omega)]
  exact this
/-- what choices gives back -/
def Chosen (tr bs bm N m : Nat) (t : Tb) (w : World) (e : Ending) (w' : World) : Prop :=
  ∃ v, e = .returned v ∧ OwnC w' w.heap.size v (t.cards.map fun c => (c, worth tr m t c)) ∧ Slv tr bs bm N w' ∧ But w.heap.size bm w w'
theorem can_len {t : Tb} (h : TbOk t) {q : Nat} (he : Evn q t) : (bitsList (canM t)).length ≤ q := by
  have h1 := congrArg List.length (canM_list h)
  rw [List.length_map] at h1
  rw [h1, ← he.turn h.pk.2, pop_len, bitsList_map]
  have h2 : t.cards = ((List.range 52).filter (fun c => (t.h t.turn).testBit c)).filter t.legal := by
    unfold Tb.cards
    rw [List.filter_filter]
    refine List.filter_congr fun c _ => ?_
    rw [Bool.eq_iff_iff, Bool.and_eq_true]
    exact ⟨fun h => ⟨h, (legal_iff.1 h).1⟩, fun h => h.1⟩
  rw [h2]
  exact Nat.le_trans (List.length_filter_le _ _) (range_filter_le _ (by decide))
set_option maxHeartbeats 2000000 in
set_option maxRecDepth 10000 in
theorem dm_choices {tr : Nat} (htr : tr < 256) (bs bm n : Nat) (t : Tb) (q m : Nat) (w : World) (hk : TbOk t) (hu : Uniq t) (he : Evn q t) (hm : 0 < q → m + 1 + t.cs.length = 4 * q) (hq : q ≤ 4) (hs : Slv tr bs bm n w) (hT : Tab w) (hn : n + 4 * 5 ^ m < maxLen) :
    Calls Tryd.prog 37 #[.pointer (some ⟨bs, 0, none⟩), .agg (tbA t)] w (Chosen tr bs bm (n + 4 * 5 ^ m) m t w) := by
  have HK := Lib.hid hk
  have HU := Lib.hid hu
  have HE := Lib.hid he
  have HM := Lib.hid hm
  have HN := Lib.hid hn
  have HQ4 := Lib.hid hq
  have HTR := Lib.hid htr
  have HP := Lib.hid (he.turn hk.pk.2)
  have HCL := Lib.hid (can_len hk he)
  obtain ⟨TA, hTA⟩ : ∃ A, tbA t = A := ⟨_, rfl⟩
  have HTA := Lib.hid hTA
  have HTZ : Hid (TA.size = 10) := Lib.hid (by rw [← hTA]; rfl)
  have HTU := Lib.hid (fun W => dm_turn t hk W)
  have HCA := Lib.hid (fun W => dm_can t hk W)
  rw [hTA] at HTU HCA ⊢
  have hb1 := ((Below.refl w.heap.size w).alloc (Nat.le_refl _) (.cells #[.pointer (some ⟨bs, 0, none⟩)] 71)).alloc (by simp) (.cells TA 76)
  have HR2 := Lib.hid ((Row.new w 71 #[.pointer (some ⟨bs, 0, none⟩)]).alloc (.cells TA 76))
  have HR3 := Lib.hid (Row.new1 w (.cells #[.pointer (some ⟨bs, 0, none⟩)] 71) 76 TA)
  have HB1 := Lib.hid hb1
  have HS1 := Lib.hid (hs.below hb1)
  have HT1 := Lib.hid (hT.below hT.pos hb1)
  have hbm := hs.lt
  have htp := hT.pos
  clear hk hu he hm hn hs hT hTA hb1 hq htr
  refine (callsIn_wide (n := 9)).1 (callsIn_of_wp_marks Tryd.func37 rfl trivial ?_)
  simp only [Tryd.ntmps37, List.size_toArray, List.length_cons, List.length_nil, Nat.reduceAdd, Nat.reduceSub, Array.replicate_succ, Array.replicate_zero, List.push_toArray, List.append_toArray, List.nil_append, List.cons_append]
  refine wpIn_wide.2 ?_
  go_upto_region 1 with fail
  obtain ⟨b0, hb0⟩ : ∃ b, w.heap.size = b := ⟨_, rfl⟩
  have HBE := Lib.hid hb0
  rw [hb0] at HR2 HR3 hbm htp ⊢
  have HBM := Lib.hid hbm
  have HTP := Lib.hid htp
  clear hb0 hbm htp
  generalize (w.alloc (.cells #[.pointer (some ⟨bs, 0, none⟩)] 71)).alloc (.cells TA 76) = W1 at *
  go_upto_region 2 with fail
  have hb2 := (Below.refl W1.heap.size W1).alloc (Nat.le_refl _) (.cells #[.slice none 0 0] 31)
  have HL5 := Lib.hid (show b0 + 1 < W1.heap.size from HR3.out.lt)
  have HR5 := Lib.hid (Row.new W1 31 #[.slice none 0 0])
  have HR22 := Lib.hid (HR2.out.later hb2)
  have HR32 := Lib.hid (HR3.out.later hb2)
  have HB2 := Lib.hid (HB1.out.trans (hb2.mono HB1.out.size))
  have HS2 := Lib.hid (HS1.out.below hb2)
  have HT2 := Lib.hid (HT1.out.below HT1.out.pos hb2)
  obtain ⟨b5, hb5⟩ : ∃ b, W1.heap.size = b := ⟨_, rfl⟩
  rw [hb5] at HL5 HR5 ⊢
  clear hb5 hb2 HR2 HR3 HB1 HS1 HT1
  generalize W1.alloc (.cells #[.slice none 0 0] 31) = W2 at *
  go_wp2_with (refine wpList_load_row rfl 76 (.tmp 3) rfl (b0 + 1) rfl 76 TA (0, 0) _ HR32.out Tryd.underlying76 rfl (by rw [HTZ.out]; exact size_tb) ?_)
  refine (HTU.out _).mono ?_
  rintro e w2 ⟨rfl, hb3⟩
  have HB3 := Lib.hid (HB2.out.trans (hb3.mono HB2.out.size))
  have HR23 := Lib.hid (HR22.out.later hb3)
  have HR33 := Lib.hid (HR32.out.later hb3)
  have HR53 := Lib.hid (HR5.out.later hb3)
  have HS3 := Lib.hid (HS2.out.below hb3)
  have HT3 := Lib.hid (HT2.out.below HT2.out.pos hb3)
  have ht4 := t.turn_lt
  have hti : (t.turn : Int) < 4 := by omega
  have cT : w2.cell? ⟨b0 + 1, t.turn, none⟩ = some (.int .u64 (t.h t.turn : Int)) := (HR33.out.cell _).trans (by rw [← HTA.out]; exact tbA_h t _ ht4)
  have HON := Lib.hid (fun W => bits_ones (t.h t.turn) (HK.out.w64 _) W)
  rw [HP.out] at HON
  clear hb3 HR22 HR32 HR5 HB2 HS2 HT2
  go_upto_region 3 with ((with_reducible refine (HON.out _).mono ?_); rintro e w3 ⟨rfl, rfl⟩)
  have hb4 := (Below.refl w2.heap.size w2).alloc (Nat.le_refl _) (.cells #[.int .i64 (q : Int)] 3)
  have HL6 := Lib.hid (show b5 < w2.heap.size from HR53.out.lt)
  have HR6 := Lib.hid (Row.new w2 3 #[.int .i64 (q : Int)])
  have HI4 : Hid (Row (w2.alloc (.cells #[.int .i64 (q : Int)] 3)) b0 71 #[.pointer (some ⟨bs, 0, none⟩)] ∧ Row (w2.alloc (.cells #[.int .i64 (q : Int)] 3)) (b0 + 1) 76 TA ∧ Row (w2.alloc (.cells #[.int .i64 (q : Int)] 3)) b5 31 #[.slice none 0 0]) := Lib.hid ⟨HR23.out.later hb4, HR33.out.later hb4, HR53.out.later hb4⟩
  have HB4 := Lib.hid (HB3.out.trans (hb4.mono HB3.out.size))
  have HS4 := Lib.hid (HS3.out.below hb4)
  have HT4 := Lib.hid (HT3.out.below HT3.out.pos hb4)
  obtain ⟨b6, hb6⟩ : ∃ b, w2.heap.size = b := ⟨_, rfl⟩
  rw [hb6] at HL6 HR6 ⊢
  clear hb6 hb4 cT HR23 HR33 HR53 HB3 HS3 HT3 hti ht4
  generalize w2.alloc (.cells #[.int .i64 (q : Int)] 3) = W4 at *
  have HCI4 : Hid (CI bs b0 b5 b6 q TA (.slice none 0 0) W4) := Lib.hid ⟨HI4.out.1, HI4.out.2.1, HI4.out.2.2, HR6.out⟩
  clear HI4 HR6
  go_wp2_with (refine wpList_load_row rfl 76 (.tmp 3) rfl (b0 + 1) rfl 76 TA (0, 0) _ HCI4.out.r3 Tryd.underlying76 rfl (by rw [HTZ.out]; exact size_tb) ?_)
  refine (HCA.out _).mono ?_
  rintro e w9 ⟨rfl, hb9⟩
  have HB9 := Lib.hid (HB4.out.trans (hb9.mono HB4.out.size))
  have HCI9 := Lib.hid (HCI4.out.below hb9)
  have HS9 := Lib.hid (HS4.out.below hb9)
  have HT9 := Lib.hid (HT4.out.below HT4.out.pos hb9)
  clear hb9 HCI4 HB4 HS4 HT4 HCA HTU
  have hcw := canM_w64 HK.out
  have HFL := Lib.hid (canM_list HK.out)
  obtain ⟨fm, hfm⟩ : ∃ x, canM t = x := ⟨_, rfl⟩
  have HFM := Lib.hid hfm
  rw [hfm] at hcw HFL HCL ⊢
  clear hfm
  go_wp2_with fail
  refine (dm_cards fm _).mono ?_
  rintro e w10 ⟨rfl, rfl⟩
  go_wp2_with fail
  have HL := Lib.hid (show b0 + 1 < b5 ∧ b5 < b6 from ⟨HL5.out, HL6.out⟩)
  have HSZ := Lib.hid (show b6 < w9.heap.size from HCI9.out.r6.lt)
  refine (wpIn_wide (n := 9)).1 ?_
  refine range_dmO w9.heap.size fm (by decide) rfl (by simp) hcw (Row.new w9 _ _)
    (fun pre W => CR tr bs bm b0 b5 b6 q TA w9.heap.size (n + pre.length * 5 ^ m) (pre.map fun x => (x.val, worth tr m t x.val)) w W)
    (fun _ _ _ _ => False) ?shut ?shutx ?tab ?start ?body ?done ?stop
  case shut =>
    intro pre A B hA hb
    rw [World.size_alloc] at hb
    exact hA.only hb ⟨HL.out.1, HL.out.2, HSZ.out⟩ HBM.out HTP.out
  case shutx => exact fun _ _ _ _ _ h _ => h.elim
  case tab => exact fun pre A ⟨_, _, _, _, hT, _⟩ => hT
  case start =>
    have hb := (Below.refl w9.heap.size w9).alloc (Nat.le_refl _) (.cells #[.int .u64 (fm : Int)] 22)
    refine ⟨_, HCI9.out.below hb, Owns.nil encC_len _ _, ?_, HT9.out.below HT9.out.pos hb, But.of_below ((by rw [← HBE.out]; exact HB9.out : Below b0 w w9).trans (hb.mono (by have := HL.out; have := HSZ.out; omega)))⟩
    rw [List.length_nil, Nat.zero_mul, Nat.add_zero]
    exact HS9.out.below hb
  case body =>
    rintro l pre suf x W hx hI hsz
    simp only [inFrame, List.setIfInBounds_toArray, List.set_cons_succ, List.set_cons_zero]
    obtain ⟨v, hCI, hOw, hSl, hTb, hBt⟩ := hI
    rw [World.size_alloc] at hsz
    have hxm : x.val ∈ t.cards := by
      rw [← HFL.out, hx]; simp
    obtain ⟨hc52, hleg⟩ := mem_cards.1 hxm
    have hcb := (legal_iff.1 hleg).1
    have hjq : pre.length + 1 ≤ q := by
      have h1 := HCL.out
      rw [hx] at h1
      simp at h1
      omega
    have HQ1 := Lib.hid (show 0 < q by omega)
    have HPL := Lib.hid (show pre.length ≤ 4 by have := HQ4.out; omega)
    obtain ⟨c, hc⟩ : ∃ c, x.val = c := ⟨_, rfl⟩
    have HC := Lib.hid hc
    rw [hc] at hc52 hcb ⊢
    clear hc hx hxm hleg
    have HCB := Lib.hid (And.intro hc52 hcb)
    have HWL := Lib.hid (worth_le tr m q HK.out.pk.2 HE.out (HM.out HQ1.out) (show c < 64 by omega) hcb)
    obtain ⟨wo, hwo⟩ : ∃ x, worth tr m t c = x := ⟨_, rfl⟩
    have HWO := Lib.hid hwo
    rw [hwo] at HWL
    have HSW : Hid (∀ W2, Keep (fun k => k = w9.heap.size ∨ k = w9.heap.size + 1 ∨ k = w9.heap.size + 2) W W2 → w9.heap.size + 3 ≤ W2.heap.size) := Lib.hid fun W2 h => by have := h.size; omega
    have HW0 : Hid (CP tr bs bm b0 b5 b6 q TA w9.heap.size (n + pre.length * 5 ^ m) v v (pre.map fun x => (x.val, worth tr m t x.val)) w W W) := Lib.hid ⟨hCI, hOw, hSl, hTb, hBt, Keep.refl _ _⟩
    have HNN : Hid ((n + pre.length * 5 ^ m) + 5 ^ m < maxLen) := Lib.hid (by
      have h1 := HN.out
      have h2 := HQ4.out
      generalize 5 ^ m = X at *
      have h3 : pre.length * X ≤ 3 * X := Nat.mul_le_mul_right _ (by omega)
      omega)
    clear hcb hjq hCI hOw hSl hTb hBt hsz hwo
    gi_wp2_with fail
    refine wpIn_region_reliesS (FQ [v, .int .u8 (c : Int), .pointer (some ⟨bs, 0, none⟩), .agg TA, .int .u8 (c : Int), .int .i64 (q : Int), .int .i64 (wo : Int), .agg #[.int .u8 (c : Int), .int .i64 (wo : Int)], undef, undef, undef]
      (CP tr bs bm b0 b5 b6 q TA w9.heap.size (n + pre.length * 5 ^ m) v v (pre.map fun x => (x.val, worth tr m t x.val)) w W)
      (CP tr bs bm b0 b5 b6 q TA w9.heap.size (n + (pre.length + 1) * 5 ^ m) v v (pre.map fun x => (x.val, worth tr m t x.val)) w W)
      (fun y A => CP tr bs bm b0 b5 b6 q TA w9.heap.size (n + (pre.length + 1) * 5 ^ m) v v (pre.map fun x => (x.val, worth tr m t x.val)) w W A ∧ ∃ g, y = .slice (some ⟨g, 0, none⟩) 1 1 ∧ Row A g 38 #[.int .u8 (c : Int), .int .i64 (wo : Int)])
      (fun y A => CP tr bs bm b0 b5 b6 q TA w9.heap.size (n + (pre.length + 1) * 5 ^ m) v y ((pre.map fun x => (x.val, worth tr m t x.val)) ++ [(c, wo)]) w W A)
      (fun A => ∃ y, CP tr bs bm b0 b5 b6 q TA w9.heap.size (n + (pre.length + 1) * 5 ^ m) y y ((pre.map fun x => (x.val, worth tr m t x.val)) ++ [(c, wo)]) w W A))
      (by kernel_rfl) (by kernel_rfl) (by kernel_rfl) (by kernel_rfl) (by kernel_rfl) (FQ.start ?fstart) ?obls ?fini
    case fstart =>
      have hd := (Below.refl W.heap.size W).drew
      exact ⟨HW0.out.1.below hd, HW0.out.2.1.below hd, HW0.out.2.2.1.below hd, HW0.out.2.2.2.1.below HW0.out.2.2.2.1.pos hd, HW0.out.2.2.2.2.1.trans (But.of_below (hd.mono (by have := HW0.out.1.r2.lt; omega))), HW0.out.2.2.2.2.2.trans ⟨hd.size, fun k _ hk => hd.block k hk⟩⟩
    case obls =>
      refine ⟨?_, ?_, ?_, ?_, ?_, ?_, ?_, ?_, ?_, ?_, ?_, trivial⟩
      · rintro ρ f W2 hF hfi hw hcl hf
        have h10 : f 10 = none := by
          rcases h : f 10 with _ | v
          · rfl
          · have := hcl 10 (by rw [h]; rfl) 0 (by decide)
            rw [hfi] at this; cases this
        have hCI : CI bs b0 b5 b6 q TA v W2 := (hF.look h10).elim (fun h => h.1) fun h => h.elim (fun h => h.1) fun h => h.elim (fun ⟨_, h⟩ => h.1.1) fun ⟨_, h⟩ => h.1
        have fp : ρ (.tmp 5) = .pointer (some ⟨b5, 0, none⟩) := hf.1 5 (by simp [Op.operands])
        have ck : W2.cell? ⟨b5, 0, none⟩ = some v := hCI.r5.cell 0
        exact ok_value (v := v) (w' := W2) (by simp [execOp, fp, go_sem, ck]) (hF.pure 0 _ (by decide) rfl)
      · rintro ρ f W2 hF hfi hw hcl hf
        have fp : ρ (.tmp 7) = .int .u8 (c : Int) := hf.1 7 (by simp [Op.operands])
        exact ok_value (v := .int .u8 (c : Int)) (w' := W2) (by simp [execOp, fp]) (hF.pure 1 _ (by decide) rfl)
      · rintro ρ f W2 hF hfi hw hcl hf
        have h10 : f 10 = none := by
          rcases h : f 10 with _ | v
          · rfl
          · have := hcl 10 (by rw [h]; rfl) 2 (by decide)
            rw [hfi] at this; cases this
        have hCI : CI bs b0 b5 b6 q TA v W2 := (hF.look h10).elim (fun h => h.1) fun h => h.elim (fun h => h.1) fun h => h.elim (fun ⟨_, h⟩ => h.1.1) fun ⟨_, h⟩ => h.1
        have fp : ρ (.tmp 2) = .pointer (some ⟨b0, 0, none⟩) := hf.1 2 (by simp [Op.operands])
        have ck : W2.cell? ⟨b0, 0, none⟩ = some (.pointer (some ⟨bs, 0, none⟩)) := hCI.r2.cell 0
        exact ok_value (v := .pointer (some ⟨bs, 0, none⟩)) (w' := W2) (by simp [execOp, fp, go_sem, ck]) (hF.pure 2 _ (by decide) rfl)
      · rintro ρ f W2 hF hfi hw hcl hf
        have h10 : f 10 = none := by
          rcases h : f 10 with _ | v
          · rfl
          · have := hcl 10 (by rw [h]; rfl) 3 (by decide)
            rw [hfi] at this; cases this
        have hCI : CI bs b0 b5 b6 q TA v W2 := (hF.look h10).elim (fun h => h.1) fun h => h.elim (fun h => h.1) fun h => h.elim (fun ⟨_, h⟩ => h.1.1) fun ⟨_, h⟩ => h.1
        have fp : ρ (.tmp 3) = .pointer (some ⟨b0 + 1, 0, none⟩) := hf.1 3 (by simp [Op.operands])
        exact ok_value (exec_load_row 76 (.tmp 3) rfl (b0 + 1) fp hCI.r3 Tryd.underlying76 rfl (by rw [HTZ.out]; exact size_tb)) (hF.pure 3 _ (by decide) rfl)
      · rintro ρ f W2 hF hfi hw hcl hf
        have fp : ρ (.tmp 7) = .int .u8 (c : Int) := hf.1 7 (by simp [Op.operands])
        exact ok_value (v := .int .u8 (c : Int)) (w' := W2) (by simp [execOp, fp]) (hF.pure 4 _ (by decide) rfl)
      · rintro ρ f W2 hF hfi hw hcl hf
        have h10 : f 10 = none := by
          rcases h : f 10 with _ | v
          · rfl
          · have := hcl 10 (by rw [h]; rfl) 5 (by decide)
            rw [hfi] at this; cases this
        have hCI : CI bs b0 b5 b6 q TA v W2 := (hF.look h10).elim (fun h => h.1) fun h => h.elim (fun h => h.1) fun h => h.elim (fun ⟨_, h⟩ => h.1.1) fun ⟨_, h⟩ => h.1
        have fp : ρ (.tmp 6) = .pointer (some ⟨b6, 0, none⟩) := hf.1 6 (by simp [Op.operands])
        have ck : W2.cell? ⟨b6, 0, none⟩ = some (.int .i64 (q : Int)) := hCI.r6.cell 0
        exact ok_value (v := .int .i64 (q : Int)) (w' := W2) (by simp [execOp, fp, go_sem, ck]) (hF.pure 5 _ (by decide) rfl)
      · rintro ρ f W2 hF hfi hw hcl hf
        obtain ⟨-, -, -, hCI, hOw, hSl, hTb, hBt, hKp⟩ := hF.s0 hfi
        have f20 : ρ (.tmp 20) = .pointer (some ⟨bs, 0, none⟩) := hF.val 2 _ _ (by decide) (by decide) (hf.1 20 (by simp [Op.operands, Call.operands])) rfl
        have f21 : ρ (.tmp 21) = .agg TA := hF.val 3 _ _ (by decide) (by decide) (hf.1 21 (by simp [Op.operands, Call.operands])) rfl
        have f22 : ρ (.tmp 22) = .int .u8 (c : Int) := hF.val 4 _ _ (by decide) (by decide) (hf.1 22 (by simp [Op.operands, Call.operands])) rfl
        have f23 : ρ (.tmp 23) = .int .i64 (q : Int) := hF.val 5 _ _ (by decide) (by decide) (hf.1 23 (by simp [Op.operands, Call.operands])) rfl
        have hq1 := HQ1.out
        have hca := dm_aft HTR.out m bs bm (n + pre.length * 5 ^ m) t q c 0 q W2 HK.out HU.out HE.out (HM.out (by omega)) HQ4.out HCB.out.1 HCB.out.2 (by omega) (by have := HQ4.out; omega) (by have := HQ4.out; omega) hSl hTb HNN.out
        rw [HTA.out] at hca
        refine ok_call (f := 67) (args := #[.pointer (some ⟨bs, 0, none⟩), .agg TA, .int .u8 (c : Int), .int .i64 0, .int .i64 (q : Int)]) (by simp [execOp, f20, f21, f22, f23, hf.2.1, hf.2.2.2, go_sem]) (hca.mono ?_)
        rintro e w5 ⟨r, rfl, hfs, hr0, hrq, hs5, hb5⟩
        have hrr : r = (wo : Int) := by
          rw [← HWO.out]
          exact hfs.sure hr0 (by omega) (by have := HWL.out; rw [← HWO.out] at this; omega)
        subst hrr
        have hl := HL.out
        have hbm := HBM.out
        have hsz := HSZ.out
        have l5 := hCI.r5.lt
        have l6 := hCI.r6.lt
        refine ⟨_, rfl, hF.call _ rfl hfi ⟨hCI.but hb5 hl.1 (by omega) (by omega) (by omega), hOw.same fun g hg hg2 => hb5.same g hg2 (by omega), ?_, hTb.but2 hb5 hTb.pos (tab_ne hSl hTb), hBt.trans (hb5.mono (by omega)), hKp.trans ⟨hb5.size, fun k hk hk2 => hb5.same k hk2 (by omega)⟩⟩⟩
        rw [Nat.succ_mul, ← Nat.add_assoc]
        exact hs5
      · rintro ρ f W2 hF hfi hw hcl hf
        have f19 : ρ (.tmp 19) = .int .u8 (c : Int) := hF.val 1 _ _ (by decide) (by decide) (hf.1 19 (by simp [Op.operands])) rfl
        have f24 : ρ (.tmp 24) = .int .i64 (wo : Int) := hF.val 6 _ _ (by decide) (by decide) (hf.1 24 (by simp [Op.operands])) rfl
        have hbd := fun W => build_ch c (wo : Int) W
        exact ok_value (v := .agg #[.int .u8 (c : Int), .int .i64 (wo : Int)]) (w' := W2) (by simp [execOp, f19, f24, hbd]) (hF.pure 7 _ (by decide) rfl)
      · rintro ρ f W2 hF hfi hw hcl hf
        have f25 : ρ (.tmp 25) = .agg #[.int .u8 (c : Int), .int .i64 (wo : Int)] := hF.val 7 _ _ (by decide) (by decide) (hf.1 25 (by simp [Op.operands])) rfl
        have h7s := hw 7 (by decide)
        have h6s := hcl 7 h7s 6 (by decide)
        obtain ⟨x6, h6⟩ := Option.isSome_iff_exists.1 h6s
        obtain ⟨-, -, hCI, hOw, hSl, hTb, hBt, hKp⟩ := hF.s1 x6 h6 hfi
        have hbs := fun W => build_chs c (wo : Int) W
        have ha := (Below.refl W2.heap.size W2).alloc (Nat.le_refl _) (.cells #[.int .u8 (c : Int), .int .i64 (wo : Int)] 38)
        exact ok_value (v := .slice (some ⟨W2.heap.size, 0, none⟩) 1 1) (w' := W2.alloc (.cells #[.int .u8 (c : Int), .int .i64 (wo : Int)] 38)) (by simp [execOp, f25, hbs]) (hF.made _ h6 hfi ⟨⟨hCI.below ha, hOw.below ha, hSl.below ha, hTb.below hTb.pos ha, hBt.trans (But.of_below (ha.mono (by have := HL.out; have := hCI.r5.lt; omega))), hKp.trans ⟨ha.size, fun k _ hk2 => ha.block k hk2⟩⟩, _, rfl, Row.new W2 _ _⟩)
      · rintro ρ f W2 hF hfi hw hcl hf
        have f18 : ρ (.tmp 18) = v := hF.val 0 _ _ (by decide) (by decide) (hf.1 18 (by simp [Op.operands, Call.operands])) rfl
        have h8 : f 8 = some (ρ (.tmp 26)) := hf.1 26 (by simp [Op.operands, Call.operands])
        have h7s := hcl 8 (by rw [h8]; rfl) 7 (by decide)
        have h6s := hcl 7 h7s 6 (by decide)
        obtain ⟨x6, h6⟩ := Option.isSome_iff_exists.1 h6s
        obtain ⟨-, ⟨hCI, hOw, hSl, hTb, hBt, hKp⟩, g, hg, hrow⟩ := hF.s2 _ h8 hfi
        have hl := HL.out
        have hbm := HBM.out
        have hsz := HSZ.out
        have htp := HTP.out
        have l5 := hCI.r5.lt
        have l6 := hCI.r6.lt
        refine ok_appC (.tmp 18) (.tmp 26) rfl (w9.heap.size + 3) v _ (c, wo) f18 hOw g hg hrow (by rw [List.length_map]; have := HPL.out; omega) (HSW.out W2 hKp) ?_
        intro v' w' hown' hgr
        have hgs : ∀ k, k < W2.heap.size → k < w9.heap.size + 3 → w'.heap[k]? = W2.heap[k]? := fun k hk hk2 => hgr.block k hk fun e => by
          have := hOw.block e.symm
          omega
        have hbu : But (w9.heap.size + 3) 0 W2 w' := ⟨hgr.os, hgr.tape, hgr.output, hgr.size, fun k hk _ => hgs k (by have := HSW.out W2 hKp; omega) hk⟩
        have hsw := HSW.out W2 hKp
        refine hF.app v' h6 h8 hfi ⟨⟨hCI.r2.same (hgs _ (by omega) (by omega)), hCI.r3.same (hgs _ (by omega) (by omega)), hCI.r5.same (hgs _ (by omega) (by omega)), hCI.r6.same (hgs _ (by omega) (by omega))⟩, hown', hSl.same (hgs _ (by omega) (by omega)) (hgs _ (by omega) (by omega)), ?_, ⟨hgr.os.trans hBt.os, hgr.tape.trans hBt.tape, hgr.output.trans hBt.output, Nat.le_trans hBt.size hgr.size, fun k hk hn => (hgs k (by omega) (by omega)).trans (hBt.same k hk hn)⟩, hKp.trans ⟨hgr.size, fun k hk hk2 => hgs k hk2 (by omega)⟩⟩
        intro j hj
        have := hTb j hj
        unfold World.cell? at this ⊢
        rw [hgs _ (by show 0 < _; omega) (by show 0 < _; omega)]
        exact this
      · rintro ρ f W2 hF hfi hw hcl hf
        have h9 : f 9 = some (ρ (.tmp 27)) := hf.1 27 (by simp [Op.operands])
        have h8s := hcl 9 (by rw [h9]; rfl) 8 (by decide)
        have h7s := hcl 8 h8s 7 (by decide)
        have h6s := hcl 7 h7s 6 (by decide)
        obtain ⟨x6, h6⟩ := Option.isSome_iff_exists.1 h6s
        obtain ⟨x8, h8⟩ := Option.isSome_iff_exists.1 h8s
        obtain ⟨hCI, hOw, hSl, hTb, hBt, hKp⟩ := hF.s3 _ h9 hfi
        obtain ⟨ya, yc, hy, -⟩ := hOw.slice
        rw [hy] at h9 hOw
        have f5 : ρ (.tmp 5) = .pointer (some ⟨b5, 0, none⟩) := hf.1 5 (by simp [Op.operands])
        have ck : W2.cell? ⟨b5, 0, none⟩ = some v := hCI.r5.cell 0
        have fk := hCI.r5.frozen 0
        have hl := HL.out
        have hbm := HBM.out
        have hsz := HSZ.out
        have htp := HTP.out
        have l5 := hCI.r5.lt
        obtain ⟨y, hyy⟩ : ∃ y : Value, y = .slice ya (pre.map (fun x => (x.val, worth tr m t x.val)) ++ [(c, wo)]).length yc := ⟨_, rfl⟩
        have hb6 := But.setCell (B := W2.heap.size) (Bm := b5) W2 0 y
        refine ok_skip (w' := W2.setCell ⟨b5, 0, none⟩ y) (by rw [hyy]; simp [execOp, f5, hy, go_sem, ck, fk]) (hF.store _ rfl h6 h8 h9 ⟨y, ⟨hCI.r2.other (show b0 ≠ b5 by omega), hCI.r3.other (show b0 + 1 ≠ b5 by omega), hCI.r5.set 0 _, hCI.r6.other (show b6 ≠ b5 by omega)⟩, (hyy ▸ hOw).same fun g hg hg2 => hb6.same g hg2 (by omega), hSl.but hb6 (by omega) (by omega) (by omega) (by omega), hTb.but2 hb6 hTb.pos (by omega), hBt.after hb6 (by omega) (by omega), hKp.trans ⟨by simp [World.setCell], fun k hk hk2 => hb6.same k hk2 (by omega)⟩⟩)
    case fini =>
      rintro vs w8 hlen hF
      have hl0 : vs.length = 11 := hlen
      match vs, hl0 with
      | [v0, v1, v2, v3, v4, v5, v6, v7, v8, v9, v10], _ =>
        obtain ⟨y, hCI, hOw, hSl, hTb, hBt, hKp⟩ := hF.s4 v10 rfl
        simp only [putAll, List.zip_cons_cons, List.zip_nil_right, List.foldl_cons, List.foldl_nil]
        simp only [Act.put, List.setIfInBounds_toArray, List.set_cons_succ, List.set_cons_zero]
        have HRES : Hid (Keep (fun k => k = w9.heap.size ∨ k = w9.heap.size + 1 ∨ k = w9.heap.size + 2) W w8 ∧ CR tr bs bm b0 b5 b6 q TA w9.heap.size (n + (pre.length + 1) * 5 ^ m) (pre.map (fun x => (x.val, worth tr m t x.val)) ++ [(x.val, worth tr m t x.val)]) w w8) := Lib.hid ⟨hKp, y, hCI, by rw [HC.out, HWO.out]; exact hOw, hSl, hTb, hBt⟩
        clear hCI hOw hSl hTb hBt hKp hF hlen
        gi_wp2_with fail
        exact HRES.out
  case done =>
    rintro D W hD ⟨v, hCI, hOw, hSl, hTb, hBt⟩ hK
    have hmap : (bitsList fm).map (fun x => (x.val, worth tr m t x.val)) = t.cards.map fun c => (c, worth tr m t c) := by rw [← HFL.out, List.map_map]; rfl
    rw [hmap] at hOw
    obtain ⟨va, vc, rfl, -⟩ := hOw.slice
    have c5 : W.cell? ⟨b5, 0, none⟩ = some (.slice va (t.cards.map fun c => (c, worth tr m t c)).length vc) := hCI.r5.cell 0
    have HOw := Lib.hid hOw
    have HSl := Lib.hid hSl
    have HBt := Lib.hid hBt
    have HK3 := Lib.hid hK
    have HD := Lib.hid hD
    obtain ⟨ln, hln⟩ : ∃ n, (t.cards.map fun c => (c, worth tr m t c)).length = n := ⟨_, rfl⟩
    rw [hln] at c5 HOw
    clear hCI hOw hSl hTb hBt hK hD hmap hln
    go_wp2_with fail
    refine ⟨by simp, .inl ⟨_, _, rfl, run_takeDeferred HK3.out, ?_⟩⟩
    refine ⟨_, results_tmp rfl _ _ _, ?_⟩
    have hd := HD.out
    rw [World.size_alloc] at hd
    have hl := HL.out
    have hsz := HSZ.out
    have hbm := HBM.out
    have hp : ∀ k, k ≠ D → (W.putObj D (.deferred none)).heap[k]? = W.heap[k]? := fun k hk => World.putObj_heap_other hk
    refine ⟨_, rfl, ?_, ?_, ?_⟩
    · rw [HBE.out]
      exact (HOw.out.same fun g hg hg2 => hp g (by omega)).mono (by omega)
    · refine (HSl.out.same (hp _ (by omega)) (hp _ (by omega))).mono (Nat.add_le_add_left (Nat.mul_le_mul_right _ (Nat.le_trans HCL.out HQ4.out)) _)
    · rw [HBE.out]
      exact HBt.out.trans (But.of_below (below_putObj _ (by omega) HK3.out))
  case stop => exact fun _ _ _ _ _ _ _ _ h _ => h.elim
end Go.Proofs.YtnbillhodbcfbaaDoor
