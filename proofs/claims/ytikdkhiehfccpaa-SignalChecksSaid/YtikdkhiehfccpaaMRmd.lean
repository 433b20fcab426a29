/- RmD, RmE, RmF in one text. -/
import Derived.Test.YtikdkhiehfccpaaMRma
import Derived.Test.YtikdkhiehfccpaaMSgs
import Derived.Test.YtikdkhiehfccpaaMSgf

/- finesselaw41's ranges, rules; the reference's Of. -/
namespace Go.Proofs.Ytikdkhiehfccpaa
open Go.RowKit Go.Sort Go.Shelf Cnt

set_option maxHeartbeats 1000000 in
theorem law41_ranges (a : Option Addr) (la ca : Nat) (ra : List Rg) (w : World) (ha : Rgs w a la ra) (hl : la ≤ 30) :
    Calls Try.prog 30 #[.slice a la ca] w fun e w' => (∃ v, e = .returned v ∧ OwnT w' w.heap.size v ra) ∧ Below w.heap.size w w' := by
  have HA := Lib.hid ha
  clear ha
  go_enter Try.func30, Try.ntmps30
  go_wp2_with fail
  go_loopw [3, 5, 8, 10, 11, 12, 13, 14, 15, 16] (fun v _ i _ _ _ _ _ _ _ wr => ∃ (k : Nat), k ≤ la ∧ i = .int .i64 (k : Int) ∧ Below w.heap.size w wr ∧ OwnT wr w.heap.size v (ra.take k)) (fun _ _ i _ _ _ _ _ _ _ _ => la - (intOf i).toNat)
  case atStart => exact ⟨0, by omega, rfl, Below.refl _ _, Owns.nil encR_len _ _⟩
  case round =>
    obtain ⟨k, hk, rfl, hB, hO⟩ := hrel
    by_cases hlt : k < la
    · obtain ⟨ba, offa, r, rfl, hbl, hr, c0, c1, c2, c3, c4, c5, c6, c7, c8, c9⟩ := (HA.out.below (Nat.le_refl _) hB).ten hlt
      have hd : decide ((k : Int) < (la : Int)) = true := by simp; omega
      have HRK := Lib.hid hr
      have HB' := Lib.hid hB
      have HO := Lib.hid hO
      have HTK : Hid (ra.take (k + 1) = ra.take k ++ [r]) := Lib.hid (by rw [List.take_add_one, hr]; rfl)
      have HLN : Hid ((ra.take k).length + 1 ≤ 100000) := Lib.hid (by rw [List.length_take]; omega)
      clear hr hB hO
      have HRW := Lib.hid (Row.new wr 73 r.arr)
      have HOA := Lib.hid ((HO.out.alloc (.cells r.arr 73)).alloc (.cells r.arr 53))
      have HRN : Hid (Rgs ((wr.alloc (.cells r.arr 73)).alloc (.cells r.arr 53)) (some ⟨wr.heap.size + 1, 0, none⟩) 1 [r]) := Lib.hid (by
        have := rgs_newT (wr.alloc (.cells r.arr 73)) r 53
        rwa [World.size_alloc] at this)
      have HBS : Hid (w.heap.size ≤ ((wr.alloc (.cells r.arr 73)).alloc (.cells r.arr 53)).heap.size) := Lib.hid (by have := HB'.out.size; simp; omega)
      have HBA := Lib.hid ((HB'.out.alloc HB'.out.size (.cells r.arr 73)).alloc (by have := HB'.out.size; simp; omega) (.cells r.arr 53))
      go_wp2_with (first
        | refine wpList_load_row rfl 73 (.tmp 5) rfl wr.heap.size rfl 73 r.arr (0, 0) _ HRW.out Try.underlying73 rfl (by rw [size39]; rfl) ?_
        | (refine appT rfl (.tmp 12) (.tmp 14) rfl w.heap.size u3 (ra.take k) [r] rfl HOA.out ⟨wr.heap.size + 1, 0, none⟩ 1 1 rfl HRN.out HLN.out HBS.out ?_; intro v' w7 h1 h2 h3 h4; have HB7 := Lib.hid (HBA.out.trans h2); have HO7 := Lib.hid h1; clear h1 h2 h3 h4))
      exact ⟨⟨k + 1, by omega, by simp, HB7.out, by rw [HTK.out]; exact HO7.out⟩, by simp [intOf]; omega⟩
    · obtain rfl : k = la := by omega
      have hd : decide ((k : Int) < (k : Int)) = false := by simp
      have HB' := Lib.hid hB
      have HO : Hid (OwnT wr w.heap.size u3 ra) := Lib.hid (by have h := hO; rw [List.take_of_length_le (by have := HA.out.length; omega)] at h; exact h)
      clear hB hO
      go_wp2_with fail
      exact bodyPost_ret (v := u3) (by simp [results, Try.results30, go_sem]) rfl ⟨⟨_, rfl, HO.out⟩, HB'.out⟩

def KRr : Kd where
  α := Rl
  rs := Rl.rs
  enc x a c := [.slice a x.rs.length c, .int .i64 x.s]
  k := 2
  T := 92
  TS := 30
  z := .agg #[.slice none 0 0, .int .i64 0]
  bytes := 32
  len _ _ _ := rfl
  one x a c u hu := by
    simp at hu
    rcases hu with rfl | rfl <;> rfl
  under := Try.underlying30
  info := by kernel_rfl
  kpos := by decide
  zs := rfl
  small := by decide
/-- a slice of ranges, in memory -/
theorem keeps_rgc (mk : Option Addr → Nat → Value) (rs : List Rg) : Keeps fun w row v => ∃ a c, v = mk a c ∧ RgC w a c rs ∧ (rs ≠ [] → ∀ ad, a = some ad → row ≠ some ad.block) := by
  rintro w w' row row' v ⟨a, c, h1, h2, h3⟩ hg hr
  refine ⟨a, c, h1, h2.grown hg h3, fun hne ad had e => ?_⟩
  rcases hr with e2 | ⟨k, e2, hk⟩
  · exact h3 hne ad had (e2 ▸ e)
  · rw [e2] at e
    injection e with e
    have := h2.old hne ad had
    omega
/-- one record in a block, its ranges in memory -/
theorem keeps_one (mk : Nat → Value) (T : TypeId) (arr : Option Addr → Nat → Array Value) (rs : List Rg) : Keeps fun w row v => ∃ g a c, v = mk g ∧ Row w g T (arr a c) ∧ row ≠ some g ∧ RgC w a c rs ∧ (rs ≠ [] → ∀ ad, a = some ad → row ≠ some ad.block) := by
  rintro w w' row row' v ⟨g, a, c, h1, h2, h3, h4, h5⟩ hg hr
  have key : ∀ {k : Nat}, row ≠ some k → k < w.heap.size → row' ≠ some k := fun hk hlt e => by
    rcases hr with e2 | ⟨k2, e2, hk2⟩
    · exact hk (e2 ▸ e)
    · rw [e2] at e
      injection e with e
      omega
  exact ⟨g, a, c, h1, (hg.block g h2.lt (fun e => h3 e.symm)).trans h2, key h3 h2.lt, h4.grown hg h5, fun hne ad had => key (h5 hne ad had) (h4.old hne ad had)⟩
end Go.Proofs.Ytikdkhiehfccpaa

/- finesselaw41.rules over this seat's program. -/
namespace Go.Proofs.Ytikdkhiehfccpaa
open Go.RowKit Go.Sort Go.Shelf Cnt

set_option maxHeartbeats 4000000 in
set_option maxRecDepth 8000 in
theorem law41_rules (a : Option Addr) (la ca : Nat) (xs : List Rl) (w : World) (ha : Rls w a la xs) (hla : la ≤ 1000) (h25 : ∀ x ∈ xs, x.rs.length ≤ 25) :
    Calls Try.prog 12 #[.slice a la ca] w fun e w' => (∃ v ps, e = .returned v ∧ OwnK KRr w' w.heap.size v ps ∧ KRr.of ps = xs) ∧ Below w.heap.size w w' := by
  have HA := Lib.hid ha
  have hsm := ha.small
  have H25 := Lib.hid h25
  clear ha h25
  go_enter Try.func12, Try.ntmps12
  go_wp2_with fail
  go_loopw [3, 5, 8] (fun v _ i wr => ∃ (k : Nat) (ps : List KRr.P), k ≤ la ∧ i = .int .i64 (k : Int) ∧ Below w.heap.size w wr ∧ OwnK KRr wr w.heap.size v ps ∧ KRr.of ps = xs.take k ∧ ps.length = k) (fun _ _ i _ => la - (intOf i).toNat)
  case atStart => exact ⟨0, [], by omega, rfl, Below.refl _ _, OwnK.nil _ _ _, rfl, rfl⟩
  case round =>
    obtain ⟨k, ps, hk, rfl, hB, hO, hps, hpl⟩ := hrel
    by_cases hlt : k < la
    · obtain ⟨b, off, x, ai, ci, rfl, hx, c0, c1, hR⟩ := (HA.out.below (Nat.le_refl _) hB).at hlt
      have hd : decide ((k : Int) < (la : Int)) = true := by simp; omega
      have HTK : Hid (xs.take (k + 1) = xs.take k ++ [x]) := Lib.hid (by rw [List.take_add_one, hx]; rfl)
      have HL25 := Lib.hid (H25.out x (List.mem_of_getElem? hx))
      have HP := Lib.hid (And.intro hps hpl)
      have HPL : Hid (ps.length ≤ 1000) := Lib.hid (by omega)
      have hw : Below wr.heap.size wr (wr.alloc (.cells (x.arr ai ci) 63)) := (Below.refl _ _).alloc (Nat.le_refl _) _
      have HRW : Hid (Row (wr.alloc (.cells (x.arr ai ci) 63)) wr.heap.size 63 (x.arr ai ci)) := Lib.hid (Row.new _ _ _)
      have HB0 := Lib.hid (hB.trans (hw.mono hB.size))
      have HO0 := Lib.hid (hO.later hw)
      have HRC := Lib.hid (hR.below hw)
      have HOB : Hid (∀ g, u3.ownBlock = some g → w.heap.size ≤ g ∧ g < wr.heap.size) := Lib.hid fun g hg => World.ownsRow.lt hO.own.2 g hg
      have HRN : Hid (x.rs ≠ [] → ∀ ad, ai = some ad → u3.ownBlock ≠ some ad.block) := Lib.hid fun hne ad had e => by
        obtain ⟨b2, off2, x2, ai2, ci2, hb2, hx2, z0, z1, hR2⟩ := HA.out.at hlt
        obtain rfl : x = x2 := by rw [hx] at hx2; exact Option.some.inj hx2
        cases hb2
        have e1 := (HA.out.below (Nat.le_refl _) hB).small
        have h1 : ai2 = ai ∧ ci2 = ci := by
          have key := ((hB.cell (p := ⟨b, off + k * 2, none⟩) (by
            rcases HA.out.cells with h0 | ⟨b3, off3, e3, hl3, _⟩
            · omega
            · cases e3; exact hl3)).symm.trans c0).symm.trans z0
          simpa [eq_comm] using key
        have h2 := hR2.old hne ad (h1.1.trans had)
        have h3 := (HOB.out _ e).1
        omega
      have HRL : Hid (wr.heap.size < (wr.alloc (.cells (x.arr ai ci) 63)).heap.size ∧ some wr.heap.size ≠ u3.ownBlock) := Lib.hid ⟨by simp, fun e => by have := (HOB.out _ e.symm).2; omega⟩
      clear hx hB hR hw hO hps hpl
      go_upto_region 5 with fail
      generalize (wr.alloc (.cells (x.arr ai ci) 63)) = W0 at *
      generalize wr.heap.size = bR at *
      have HOI : Hid (∀ (j : Nat) (ms : List _) (m : Nat), ([.eq u3, .eq (.pointer (some ⟨bR, 0, none⟩)), .eq (.slice ai x.rs.length ci), .pr _ (keeps_rgc (fun a c => .slice a x.rs.length c) x.rs), .eq (.pointer (some ⟨bR, 1, none⟩)), .eq (.int .i64 x.s), .pr _ (keeps_rgc (fun a c => .agg #[.slice a x.rs.length c, .int .i64 x.s]) x.rs), .pr _ (keeps_one (fun g => .slice (some ⟨g, 0, none⟩) 1 1) KRr.T (fun a c => #[.slice a x.rs.length c, .int .i64 x.s]) x.rs), .own (KRr.of ps ++ ([x] : List KRr.α)) 9, .own (KRr.of ps ++ ([x] : List KRr.α)) 10] : List (SpK KRr.α))[j]? = some (.own ms m) → (j = 8 ∧ m = 9) ∨ (j = 9 ∧ m = 10)) := Lib.hid (by
        intro j ms m h
        rcases j with _ | _ | _ | _ | _ | _ | _ | _ | _ | _ | _
        all_goals (simp at h; try (simp [← h.2])))
      refine wp_region_reliesG (FXG KRr w.heap.size W0 u3 (KRr.of ps) 8 [.eq u3, .eq (.pointer (some ⟨bR, 0, none⟩)), .eq (.slice ai x.rs.length ci), .pr _ (keeps_rgc (fun a c => .slice a x.rs.length c) x.rs), .eq (.pointer (some ⟨bR, 1, none⟩)), .eq (.int .i64 x.s), .pr _ (keeps_rgc (fun a c => .agg #[.slice a x.rs.length c, .int .i64 x.s]) x.rs), .pr _ (keeps_one (fun g => .slice (some ⟨g, 0, none⟩) 1 1) KRr.T (fun a c => #[.slice a x.rs.length c, .int .i64 x.s]) x.rs), .own (KRr.of ps ++ ([x] : List KRr.α)) 9, .own (KRr.of ps ++ ([x] : List KRr.α)) 10]) (by kernel_rfl) (by kernel_rfl) (by kernel_rfl) (by kernel_rfl) (fx_start KRr _ _ _ ps _ _ HO0.out HB0.out.size) ?obls ?fini
      case obls =>
        refine ⟨?_, ?_, ?_, ?_, ?_, ?_, ?_, ?_, ?_, ?_, trivial⟩
        · -- 0
          rintro ρ f w' ⟨row, hF⟩ hfi hw hcl hf
          have f3 : ρ (.tmp 3) = u3 := hf.1 3 (by simp [Op.operands])
          refine ok_value (v := u3) (w' := w') ?_ (hF.step 0 (.eq _) _ rfl (Below.refl _ _) rfl)
          simp [execOp, f3]
        · -- 1
          rintro ρ f w' ⟨row, hF⟩ hfi hw hcl hf
          have f5 : ρ (.tmp 5) = .pointer (some ⟨bR, 0, none⟩) := hf.1 5 (by simp [Op.operands])
          refine ok_value (v := .pointer (some ⟨bR, 0, none⟩)) (w' := w') ?_ (hF.step 1 (.eq _) _ rfl (Below.refl _ _) rfl)
          simp [execOp, f5, go_sem]
        · -- 2
          rintro ρ f w' ⟨row, hF⟩ hfi hw hcl hf
          have f13 : ρ (.tmp 13) = .pointer (some ⟨bR, 0, none⟩) := hF.each 1 (.eq _) _ rfl (hf.1 13 (by simp [Op.operands]))
          have hrow : Row w' bR _ _ := (hF.grown.block bR HRL.out.1 HRL.out.2).trans HRW.out
          have c := hrow.cell 0
          simp only [List.getElem?_toArray, List.getElem?_cons_zero] at c
          refine ok_value (v := .slice ai x.rs.length ci) (w' := w') ?_ (hF.step 2 (.eq _) _ rfl (Below.refl _ _) rfl)
          simp [execOp, f13, go_sem, c]
        · -- 3
          rintro ρ f w' ⟨row, hF⟩ hfi hw hcl hf
          have f14 : ρ (.tmp 14) = .slice ai x.rs.length ci := hF.each 2 (.eq _) _ rfl (hf.1 14 (by simp [Op.operands, Call.operands]))
          exact ok_call (f := 30) (args := #[.slice ai x.rs.length ci]) (by simp [execOp, f14, hf.2.2.2, go_sem]) ((law41_ranges ai x.rs.length ci x.rs w' (HRC.out.grown hF.grown HRN.out).rgs (by have := HL25.out; omega)).mono fun e w2 ⟨⟨v, he, hv⟩, hb⟩ => ⟨v, he, hF.step 3 (.pr _ (keeps_rgc (fun a c => .slice a x.rs.length c) x.rs)) _ rfl hb (by
            obtain ⟨av, cv, rfl, hR, hle, hnn⟩ := hv.rgs (by have := HL25.out; omega)
            refine ⟨av, cv, rfl, ⟨hR, hle, hnn⟩, fun hne ad had e2 => ?_⟩
            subst had
            rcases hv.2.2 with ⟨h, _⟩ | ⟨g, cap', cur, h, hg, hgg, _⟩
            · simp at h
            · simp only [Value.slice.injEq, Option.some.injEq] at h
              obtain ⟨rfl, _⟩ := h
              have := (hF.lt2 _ e2).2
              exact absurd (show w'.heap.size ≤ g from hg) (by simpa using this))⟩)
        · -- 4
          rintro ρ f w' ⟨row, hF⟩ hfi hw hcl hf
          have f5 : ρ (.tmp 5) = .pointer (some ⟨bR, 0, none⟩) := hf.1 5 (by simp [Op.operands])
          refine ok_value (v := .pointer (some ⟨bR, 1, none⟩)) (w' := w') ?_ (hF.step 4 (.eq _) _ rfl (Below.refl _ _) rfl)
          simp [execOp, f5, go_sem]
        · -- 5
          rintro ρ f w' ⟨row, hF⟩ hfi hw hcl hf
          have f16 : ρ (.tmp 16) = .pointer (some ⟨bR, 1, none⟩) := hF.each 4 (.eq _) _ rfl (hf.1 16 (by simp [Op.operands]))
          have hrow : Row w' bR _ _ := (hF.grown.block bR HRL.out.1 HRL.out.2).trans HRW.out
          have c := hrow.cell 1
          simp only [List.getElem?_toArray, List.getElem?_cons_zero, List.getElem?_cons_succ] at c
          refine ok_value (v := .int .i64 x.s) (w' := w') ?_ (hF.step 5 (.eq _) _ rfl (Below.refl _ _) rfl)
          simp [execOp, f16, go_sem, c]
        · -- 6
          rintro ρ f w' ⟨row, hF⟩ hfi hw hcl hf
          obtain ⟨a, c, f15, hrc, hne⟩ := hF.each 3 (.pr _ (keeps_rgc (fun a c => .slice a x.rs.length c) x.rs)) _ rfl (hf.1 15 (by simp [Op.operands]))
          have f17 : ρ (.tmp 17) = .int .i64 x.s := hF.each 5 (.eq _) _ rfl (hf.1 17 (by simp [Op.operands]))
          refine ok_value (v := .agg #[.slice a x.rs.length c, .int .i64 x.s]) (w' := w') ?_ (hF.step 6 (.pr _ (keeps_rgc (fun a c => .agg #[.slice a x.rs.length c, .int .i64 x.s]) x.rs)) _ rfl (Below.refl _ _) ⟨a, c, rfl, hrc, hne⟩)
          simp [execOp, f15, f17, go_sem]
        · -- 7
          rintro ρ f w' ⟨row, hF⟩ hfi hw hcl hf
          obtain ⟨a, c, f18, hrc, hne⟩ := hF.each 6 (.pr _ (keeps_rgc (fun a c => .agg #[.slice a x.rs.length c, .int .i64 x.s]) x.rs)) _ rfl (hf.1 18 (by simp [Op.operands]))
          have hb2 : Below w'.heap.size w' (w'.alloc (.cells #[.slice a x.rs.length c, .int .i64 x.s] KRr.T)) := (Below.refl _ _).alloc (Nat.le_refl _) _
          refine ok_value (v := .slice (some ⟨w'.heap.size, 0, none⟩) 1 1) (w' := w'.alloc (.cells #[.slice a x.rs.length c, .int .i64 x.s] KRr.T)) ?_ (hF.step 7 (.pr _ (keeps_one (fun g => .slice (some ⟨g, 0, none⟩) 1 1) KRr.T (fun a c => #[.slice a x.rs.length c, .int .i64 x.s]) x.rs)) _ rfl hb2 ⟨w'.heap.size, a, c, rfl, Row.new _ _ _, (fun e => by have := (hF.lt2 _ e).2; omega), hrc.below hb2, hne⟩)
          simp [execOp, f18, go_sem, KRr]
        · -- 8
          rintro ρ f w' ⟨row, hF⟩ hfi hw hcl hf
          have f12 : ρ (.tmp 12) = u3 := hF.each 0 (.eq _) _ rfl (hf.1 12 (by simp [Op.operands, Call.operands]))
          obtain ⟨g, a, c, f19, hrow, hng, hrc, hne⟩ := hF.each 7 (.pr _ (keeps_one (fun g => .slice (some ⟨g, 0, none⟩) 1 1) KRr.T (fun a c => #[.slice a x.rs.length c, .int .i64 x.s]) x.rs)) _ rfl (hf.1 19 (by simp [Op.operands, Call.operands]))
          obtain ⟨hrw, hst⟩ := hF.start hfi
          refine ok_appK (K := KRr) (.tmp 12) (.tmp 19) rfl w.heap.size u3 (KRr.of ps) ([x] : List KRr.α) row f12 hst ⟨g, 0, none⟩ 1 1 f19 [(x, a, c)] rfl rfl (fun j y hy => row_src (l := [.slice a x.rs.length c, .int .i64 x.s]) hrow j y (by simpa [Kd.e, KRr] using hy) _ rfl) (fun p hp => by rcases List.mem_singleton.1 hp with rfl; exact hrc) (fun p hp hr ad had => by rcases List.mem_singleton.1 hp with rfl; exact hne hr ad had) (by have := HPL.out; simp [Kd.of]; omega) (Nat.le_trans hF.base hF.grown.size) fun v w2 row' ho hg hr => hF.turn 8 (KRr.of ps ++ ([x] : List KRr.α)) 9 v rfl hg hr ho (.inl rfl) ?_
          intro j ms m h
          obtain ⟨rfl, rfl⟩ | ⟨rfl, rfl⟩ := HOI.out j ms m h
          · exact .inl rfl
          · exact .inr (.inr (.inl (none_of hcl hfi (by decide))))
        · -- 9
          rintro ρ f w' ⟨row, hF⟩ hfi hw hcl hf
          have hu := hf.1 20 (by simp [Op.operands])
          have hou := hF.each 8 (.own _ 9) _ rfl hu hfi
          refine ok_value (v := ρ (.tmp 20)) (w' := w') (by simp [execOp]) (hF.turn 9 (KRr.of ps ++ ([x] : List KRr.α)) 10 _ rfl (grownBy_below (Below.refl _ _) _) (.inl rfl) hou (.inr (hw 8 (by decide))) ?_)
          intro j ms m h
          obtain ⟨rfl, rfl⟩ | ⟨rfl, rfl⟩ := HOI.out j ms m h
          · exact .inr (.inl rfl)
          · exact .inl rfl
      case fini =>
        rintro vs w8 hlen ⟨row, hF⟩
        have hl0 : vs.length = 10 := hlen
        clear hlen
        obtain ⟨v0, t0, rfl, hl1⟩ := uncons hl0
        clear hl0
        obtain ⟨v1, t1, rfl, hl2⟩ := uncons hl1
        clear hl1
        obtain ⟨v2, t2, rfl, hl3⟩ := uncons hl2
        clear hl2
        obtain ⟨v3, t3, rfl, hl4⟩ := uncons hl3
        clear hl3
        obtain ⟨v4, t4, rfl, hl5⟩ := uncons hl4
        clear hl4
        obtain ⟨v5, t5, rfl, hl6⟩ := uncons hl5
        clear hl5
        obtain ⟨v6, t6, rfl, hl7⟩ := uncons hl6
        clear hl6
        obtain ⟨v7, t7, rfl, hl8⟩ := uncons hl7
        clear hl7
        obtain ⟨v8, t8, rfl, hl9⟩ := uncons hl8
        clear hl8
        obtain ⟨v9, t9, rfl, hl10⟩ := uncons hl9
        clear hl9
        obtain rfl := List.eq_nil_of_length_eq_zero hl10
        clear hl10
        obtain ⟨qs, hq1, hq2, -⟩ := hF.each 9 (.own _ 10) v9 rfl rfl rfl
        have hb8 := hF.below
        clear hF HOI
        have HB8 := Lib.hid (HB0.out.trans hb8)
        have HO8 := Lib.hid hq2
        have HQL : Hid (qs.length = k + 1) := Lib.hid (by have h1 := congrArg List.length hq1; have h2 := HP.out.2; rw [List.length_append] at h1; unfold Kd.of at h1; rw [List.length_map, List.length_map] at h1; exact h1.trans (by rw [h2]; rfl))
        have HQ8 : Hid (KRr.of qs = xs.take k ++ [x]) := Lib.hid (by rw [hq1, HP.out.1]; rfl)
        clear hb8 hq2 hq1
        simp only [putAll, List.zip_cons_cons, List.zip_nil_right, List.foldl_cons, List.foldl_nil]
        simp only [Act.put, List.setIfInBounds_toArray, List.set_cons_succ, List.set_cons_zero]
        go_wp2_with fail
        exact ⟨⟨k + 1, qs, by omega, by simp, HB8.out, HO8.out, by rw [HTK.out]; exact HQ8.out, HQL.out⟩, by simp [intOf]; omega⟩
    · obtain rfl : k = la := by omega
      have hd : decide ((k : Int) < (k : Int)) = false := by simp
      have HB := Lib.hid hB
      have HO := Lib.hid hO
      have HP : Hid (KRr.of ps = xs) := Lib.hid (by rw [hps, List.take_of_length_le (by have := HA.out.length; omega)])
      clear hB hO hps
      go_wp2_with fail
      exact bodyPost_ret (v := u3) (by simp [results, Try.results12, go_sem]) rfl ⟨⟨_, ps, rfl, HO.out, HP.out⟩, HB.out⟩
end Go.Proofs.Ytikdkhiehfccpaa

/- finesselaw41.claimed over this seat's program. -/
namespace Go.Proofs.Ytikdkhiehfccpaa
open Go.RowKit Go.Sort Go.Shelf Cnt

def KCr : Kd where
  α := Cm
  rs := Cm.rs
  enc x a c := [.int .i64 x.s, .int .i64 x.lo, .int .i64 x.hi, .slice a x.rs.length c]
  k := 4
  T := 49
  TS := 32
  z := .agg #[.int .i64 0, .int .i64 0, .int .i64 0, .slice none 0 0]
  bytes := 48
  len _ _ _ := rfl
  one x a c u hu := by
    simp at hu
    rcases hu with rfl | rfl | rfl | rfl <;> rfl
  under := Try.underlying32
  info := by kernel_rfl
  kpos := by decide
  zs := rfl
  small := by decide

set_option maxHeartbeats 4000000 in
set_option maxRecDepth 8000 in
theorem law41_claimed (a : Option Addr) (la ca : Nat) (xs : List Cm) (w : World) (ha : Cms w a la xs) (hla : la ≤ 1000) (h25 : ∀ x ∈ xs, x.rs.length ≤ 25) :
    Calls Try.prog 13 #[.slice a la ca] w fun e w' => (∃ v ps, e = .returned v ∧ OwnK KCr w' w.heap.size v ps ∧ KCr.of ps = xs) ∧ Below w.heap.size w w' := by
  have HA := Lib.hid ha
  have hsm := ha.small
  have H25 := Lib.hid h25
  clear ha h25
  go_enter Try.func13, Try.ntmps13
  go_wp2_with fail
  go_loopw [3, 5, 8] (fun v _ i wr => ∃ (k : Nat) (ps : List KCr.P), k ≤ la ∧ i = .int .i64 (k : Int) ∧ Below w.heap.size w wr ∧ OwnK KCr wr w.heap.size v ps ∧ KCr.of ps = xs.take k ∧ ps.length = k) (fun _ _ i _ => la - (intOf i).toNat)
  case atStart => exact ⟨0, [], by omega, rfl, Below.refl _ _, OwnK.nil _ _ _, rfl, rfl⟩
  case round =>
    obtain ⟨k, ps, hk, rfl, hB, hO, hps, hpl⟩ := hrel
    by_cases hlt : k < la
    · obtain ⟨b, off, x, ai, ci, rfl, hx, c0, c1, c2, c3, hR⟩ := (HA.out.below (Nat.le_refl _) hB).at hlt
      have hd : decide ((k : Int) < (la : Int)) = true := by simp; omega
      have HTK : Hid (xs.take (k + 1) = xs.take k ++ [x]) := Lib.hid (by rw [List.take_add_one, hx]; rfl)
      have HL25 := Lib.hid (H25.out x (List.mem_of_getElem? hx))
      have HP := Lib.hid (And.intro hps hpl)
      have HPL : Hid (ps.length ≤ 1000) := Lib.hid (by omega)
      have hw : Below wr.heap.size wr (wr.alloc (.cells (x.arr ai ci) 29)) := (Below.refl _ _).alloc (Nat.le_refl _) _
      have HRW : Hid (Row (wr.alloc (.cells (x.arr ai ci) 29)) wr.heap.size 29 (x.arr ai ci)) := Lib.hid (Row.new _ _ _)
      have HB0 := Lib.hid (hB.trans (hw.mono hB.size))
      have HO0 := Lib.hid (hO.later hw)
      have HRC := Lib.hid (hR.below hw)
      have HOB : Hid (∀ g, u3.ownBlock = some g → w.heap.size ≤ g ∧ g < wr.heap.size) := Lib.hid fun g hg => World.ownsRow.lt hO.own.2 g hg
      have HRN : Hid (x.rs ≠ [] → ∀ ad, ai = some ad → u3.ownBlock ≠ some ad.block) := Lib.hid fun hne ad had e => by
        obtain ⟨b2, off2, x2, ai2, ci2, hb2, hx2, z0, z1, z2, z3, hR2⟩ := HA.out.at hlt
        obtain rfl : x = x2 := by rw [hx] at hx2; exact Option.some.inj hx2
        cases hb2
        have e1 := (HA.out.below (Nat.le_refl _) hB).small
        have h1 : ai2 = ai ∧ ci2 = ci := by
          have key := ((hB.cell (p := ⟨b, off + k * 4 + 3, none⟩) (by
            rcases HA.out.cells with h0 | ⟨b3, off3, e3, hl3, _⟩
            · omega
            · cases e3; exact hl3)).symm.trans c3).symm.trans z3
          simpa [eq_comm] using key
        have h2 := hR2.old hne ad (h1.1.trans had)
        have h3 := (HOB.out _ e).1
        omega
      have HRL : Hid (wr.heap.size < (wr.alloc (.cells (x.arr ai ci) 29)).heap.size ∧ some wr.heap.size ≠ u3.ownBlock) := Lib.hid ⟨by simp, fun e => by have := (HOB.out _ e.symm).2; omega⟩
      clear hx hB hR hw hO hps hpl
      go_upto_region 5 with fail
      generalize (wr.alloc (.cells (x.arr ai ci) 29)) = W0 at *
      generalize wr.heap.size = bR at *
      have HOI : Hid (∀ (j : Nat) (ms : List _) (m : Nat), ([.eq u3, .eq (.pointer (some ⟨bR, 0, none⟩)), .eq (.int .i64 x.s), .eq (.pointer (some ⟨bR, 1, none⟩)), .eq (.int .i64 x.lo), .eq (.pointer (some ⟨bR, 2, none⟩)), .eq (.int .i64 x.hi), .eq (.pointer (some ⟨bR, 3, none⟩)), .eq (.slice ai x.rs.length ci), .pr _ (keeps_rgc (fun a c => .slice a x.rs.length c) x.rs), .pr _ (keeps_rgc (fun a c => .agg #[.int .i64 x.s, .int .i64 x.lo, .int .i64 x.hi, .slice a x.rs.length c]) x.rs), .pr _ (keeps_one (fun g => .slice (some ⟨g, 0, none⟩) 1 1) KCr.T (fun a c => #[.int .i64 x.s, .int .i64 x.lo, .int .i64 x.hi, .slice a x.rs.length c]) x.rs), .own (KCr.of ps ++ ([x] : List KCr.α)) 13, .own (KCr.of ps ++ ([x] : List KCr.α)) 14] : List (SpK KCr.α))[j]? = some (.own ms m) → (j = 12 ∧ m = 13) ∨ (j = 13 ∧ m = 14)) := Lib.hid (by
        intro j ms m h
        rcases j with _ | _ | _ | _ | _ | _ | _ | _ | _ | _ | _ | _ | _ | _ | _
        all_goals (simp at h; try (simp [← h.2])))
      refine wp_region_reliesG (FXG KCr w.heap.size W0 u3 (KCr.of ps) 12 [.eq u3, .eq (.pointer (some ⟨bR, 0, none⟩)), .eq (.int .i64 x.s), .eq (.pointer (some ⟨bR, 1, none⟩)), .eq (.int .i64 x.lo), .eq (.pointer (some ⟨bR, 2, none⟩)), .eq (.int .i64 x.hi), .eq (.pointer (some ⟨bR, 3, none⟩)), .eq (.slice ai x.rs.length ci), .pr _ (keeps_rgc (fun a c => .slice a x.rs.length c) x.rs), .pr _ (keeps_rgc (fun a c => .agg #[.int .i64 x.s, .int .i64 x.lo, .int .i64 x.hi, .slice a x.rs.length c]) x.rs), .pr _ (keeps_one (fun g => .slice (some ⟨g, 0, none⟩) 1 1) KCr.T (fun a c => #[.int .i64 x.s, .int .i64 x.lo, .int .i64 x.hi, .slice a x.rs.length c]) x.rs), .own (KCr.of ps ++ ([x] : List KCr.α)) 13, .own (KCr.of ps ++ ([x] : List KCr.α)) 14]) (by kernel_rfl) (by kernel_rfl) (by kernel_rfl) (by kernel_rfl) (fx_start KCr _ _ _ ps _ _ HO0.out HB0.out.size) ?obls ?fini
      case obls =>
        refine ⟨?_, ?_, ?_, ?_, ?_, ?_, ?_, ?_, ?_, ?_, ?_, ?_, ?_, ?_, trivial⟩
        · -- 0
          rintro ρ f w' ⟨row, hF⟩ hfi hw hcl hf
          have f3 : ρ (.tmp 3) = u3 := hf.1 3 (by simp [Op.operands])
          refine ok_value (v := u3) (w' := w') ?_ (hF.step 0 (.eq _) _ rfl (Below.refl _ _) rfl)
          simp [execOp, f3]
        · -- 1
          rintro ρ f w' ⟨row, hF⟩ hfi hw hcl hf
          have f5 : ρ (.tmp 5) = .pointer (some ⟨bR, 0, none⟩) := hf.1 5 (by simp [Op.operands])
          refine ok_value (v := .pointer (some ⟨bR, 0, none⟩)) (w' := w') ?_ (hF.step 1 (.eq _) _ rfl (Below.refl _ _) rfl)
          simp [execOp, f5, go_sem]
        · -- 2
          rintro ρ f w' ⟨row, hF⟩ hfi hw hcl hf
          have f13 : ρ (.tmp 13) = .pointer (some ⟨bR, 0, none⟩) := hF.each 1 (.eq _) _ rfl (hf.1 13 (by simp [Op.operands]))
          have hrow : Row w' bR _ _ := (hF.grown.block bR HRL.out.1 HRL.out.2).trans HRW.out
          have c := hrow.cell 0
          simp only [List.getElem?_toArray, List.getElem?_cons_zero] at c
          refine ok_value (v := .int .i64 x.s) (w' := w') ?_ (hF.step 2 (.eq _) _ rfl (Below.refl _ _) rfl)
          simp [execOp, f13, go_sem, c]
        · -- 3
          rintro ρ f w' ⟨row, hF⟩ hfi hw hcl hf
          have f5 : ρ (.tmp 5) = .pointer (some ⟨bR, 0, none⟩) := hf.1 5 (by simp [Op.operands])
          refine ok_value (v := .pointer (some ⟨bR, 1, none⟩)) (w' := w') ?_ (hF.step 3 (.eq _) _ rfl (Below.refl _ _) rfl)
          simp [execOp, f5, go_sem]
        · -- 4
          rintro ρ f w' ⟨row, hF⟩ hfi hw hcl hf
          have f15 : ρ (.tmp 15) = .pointer (some ⟨bR, 1, none⟩) := hF.each 3 (.eq _) _ rfl (hf.1 15 (by simp [Op.operands]))
          have hrow : Row w' bR _ _ := (hF.grown.block bR HRL.out.1 HRL.out.2).trans HRW.out
          have c := hrow.cell 1
          simp only [List.getElem?_toArray, List.getElem?_cons_zero, List.getElem?_cons_succ] at c
          refine ok_value (v := .int .i64 x.lo) (w' := w') ?_ (hF.step 4 (.eq _) _ rfl (Below.refl _ _) rfl)
          simp [execOp, f15, go_sem, c]
        · -- 5
          rintro ρ f w' ⟨row, hF⟩ hfi hw hcl hf
          have f5 : ρ (.tmp 5) = .pointer (some ⟨bR, 0, none⟩) := hf.1 5 (by simp [Op.operands])
          refine ok_value (v := .pointer (some ⟨bR, 2, none⟩)) (w' := w') ?_ (hF.step 5 (.eq _) _ rfl (Below.refl _ _) rfl)
          simp [execOp, f5, go_sem]
        · -- 6
          rintro ρ f w' ⟨row, hF⟩ hfi hw hcl hf
          have f17 : ρ (.tmp 17) = .pointer (some ⟨bR, 2, none⟩) := hF.each 5 (.eq _) _ rfl (hf.1 17 (by simp [Op.operands]))
          have hrow : Row w' bR _ _ := (hF.grown.block bR HRL.out.1 HRL.out.2).trans HRW.out
          have c := hrow.cell 2
          simp only [List.getElem?_toArray, List.getElem?_cons_zero, List.getElem?_cons_succ] at c
          refine ok_value (v := .int .i64 x.hi) (w' := w') ?_ (hF.step 6 (.eq _) _ rfl (Below.refl _ _) rfl)
          simp [execOp, f17, go_sem, c]
        · -- 7
          rintro ρ f w' ⟨row, hF⟩ hfi hw hcl hf
          have f5 : ρ (.tmp 5) = .pointer (some ⟨bR, 0, none⟩) := hf.1 5 (by simp [Op.operands])
          refine ok_value (v := .pointer (some ⟨bR, 3, none⟩)) (w' := w') ?_ (hF.step 7 (.eq _) _ rfl (Below.refl _ _) rfl)
          simp [execOp, f5, go_sem]
        · -- 8
          rintro ρ f w' ⟨row, hF⟩ hfi hw hcl hf
          have f19 : ρ (.tmp 19) = .pointer (some ⟨bR, 3, none⟩) := hF.each 7 (.eq _) _ rfl (hf.1 19 (by simp [Op.operands]))
          have hrow : Row w' bR _ _ := (hF.grown.block bR HRL.out.1 HRL.out.2).trans HRW.out
          have c := hrow.cell 3
          simp only [List.getElem?_toArray, List.getElem?_cons_zero, List.getElem?_cons_succ] at c
          refine ok_value (v := .slice ai x.rs.length ci) (w' := w') ?_ (hF.step 8 (.eq _) _ rfl (Below.refl _ _) rfl)
          simp [execOp, f19, go_sem, c]
        · -- 9
          rintro ρ f w' ⟨row, hF⟩ hfi hw hcl hf
          have f20 : ρ (.tmp 20) = .slice ai x.rs.length ci := hF.each 8 (.eq _) _ rfl (hf.1 20 (by simp [Op.operands, Call.operands]))
          exact ok_call (f := 30) (args := #[.slice ai x.rs.length ci]) (by simp [execOp, f20, hf.2.2.2, go_sem]) ((law41_ranges ai x.rs.length ci x.rs w' (HRC.out.grown hF.grown HRN.out).rgs (by have := HL25.out; omega)).mono fun e w2 ⟨⟨v, he, hv⟩, hb⟩ => ⟨v, he, hF.step 9 (.pr _ (keeps_rgc (fun a c => .slice a x.rs.length c) x.rs)) _ rfl hb (by
            obtain ⟨av, cv, rfl, hR, hle, hnn⟩ := hv.rgs (by have := HL25.out; omega)
            refine ⟨av, cv, rfl, ⟨hR, hle, hnn⟩, fun hne ad had e2 => ?_⟩
            subst had
            rcases hv.2.2 with ⟨h, _⟩ | ⟨g, cap', cur, h, hg, hgg, _⟩
            · simp at h
            · simp only [Value.slice.injEq, Option.some.injEq] at h
              obtain ⟨rfl, _⟩ := h
              have := (hF.lt2 _ e2).2
              exact absurd (show w'.heap.size ≤ g from hg) (by simpa using this))⟩)
        · -- 10
          rintro ρ f w' ⟨row, hF⟩ hfi hw hcl hf
          obtain ⟨a, c, f21, hrc, hne⟩ := hF.each 9 (.pr _ (keeps_rgc (fun a c => .slice a x.rs.length c) x.rs)) _ rfl (hf.1 21 (by simp [Op.operands]))
          have f14 : ρ (.tmp 14) = .int .i64 x.s := hF.each 2 (.eq _) _ rfl (hf.1 14 (by simp [Op.operands]))
          have f16 : ρ (.tmp 16) = .int .i64 x.lo := hF.each 4 (.eq _) _ rfl (hf.1 16 (by simp [Op.operands]))
          have f18 : ρ (.tmp 18) = .int .i64 x.hi := hF.each 6 (.eq _) _ rfl (hf.1 18 (by simp [Op.operands]))
          refine ok_value (v := .agg #[.int .i64 x.s, .int .i64 x.lo, .int .i64 x.hi, .slice a x.rs.length c]) (w' := w') ?_ (hF.step 10 (.pr _ (keeps_rgc (fun a c => .agg #[.int .i64 x.s, .int .i64 x.lo, .int .i64 x.hi, .slice a x.rs.length c]) x.rs)) _ rfl (Below.refl _ _) ⟨a, c, rfl, hrc, hne⟩)
          simp [execOp, f21, f14, f16, f18, go_sem]
        · -- 11
          rintro ρ f w' ⟨row, hF⟩ hfi hw hcl hf
          obtain ⟨a, c, f22, hrc, hne⟩ := hF.each 10 (.pr _ (keeps_rgc (fun a c => .agg #[.int .i64 x.s, .int .i64 x.lo, .int .i64 x.hi, .slice a x.rs.length c]) x.rs)) _ rfl (hf.1 22 (by simp [Op.operands]))
          have hb2 : Below w'.heap.size w' (w'.alloc (.cells #[.int .i64 x.s, .int .i64 x.lo, .int .i64 x.hi, .slice a x.rs.length c] KCr.T)) := (Below.refl _ _).alloc (Nat.le_refl _) _
          refine ok_value (v := .slice (some ⟨w'.heap.size, 0, none⟩) 1 1) (w' := w'.alloc (.cells #[.int .i64 x.s, .int .i64 x.lo, .int .i64 x.hi, .slice a x.rs.length c] KCr.T)) ?_ (hF.step 11 (.pr _ (keeps_one (fun g => .slice (some ⟨g, 0, none⟩) 1 1) KCr.T (fun a c => #[.int .i64 x.s, .int .i64 x.lo, .int .i64 x.hi, .slice a x.rs.length c]) x.rs)) _ rfl hb2 ⟨w'.heap.size, a, c, rfl, Row.new _ _ _, (fun e => by have := (hF.lt2 _ e).2; omega), hrc.below hb2, hne⟩)
          simp [execOp, f22, go_sem, KCr]
        · -- 12
          rintro ρ f w' ⟨row, hF⟩ hfi hw hcl hf
          have f12 : ρ (.tmp 12) = u3 := hF.each 0 (.eq _) _ rfl (hf.1 12 (by simp [Op.operands, Call.operands]))
          obtain ⟨g, a, c, f23, hrow, hng, hrc, hne⟩ := hF.each 11 (.pr _ (keeps_one (fun g => .slice (some ⟨g, 0, none⟩) 1 1) KCr.T (fun a c => #[.int .i64 x.s, .int .i64 x.lo, .int .i64 x.hi, .slice a x.rs.length c]) x.rs)) _ rfl (hf.1 23 (by simp [Op.operands, Call.operands]))
          obtain ⟨hrw, hst⟩ := hF.start hfi
          refine ok_appK (K := KCr) (.tmp 12) (.tmp 23) rfl w.heap.size u3 (KCr.of ps) ([x] : List KCr.α) row f12 hst ⟨g, 0, none⟩ 1 1 f23 [(x, a, c)] rfl rfl (fun j y hy => row_src (l := [.int .i64 x.s, .int .i64 x.lo, .int .i64 x.hi, .slice a x.rs.length c]) hrow j y (by simpa [Kd.e, KCr] using hy) _ rfl) (fun p hp => by rcases List.mem_singleton.1 hp with rfl; exact hrc) (fun p hp hr ad had => by rcases List.mem_singleton.1 hp with rfl; exact hne hr ad had) (by have := HPL.out; simp [Kd.of]; omega) (Nat.le_trans hF.base hF.grown.size) fun v w2 row' ho hg hr => hF.turn 12 (KCr.of ps ++ ([x] : List KCr.α)) 13 v rfl hg hr ho (.inl rfl) ?_
          intro j ms m h
          obtain ⟨rfl, rfl⟩ | ⟨rfl, rfl⟩ := HOI.out j ms m h
          · exact .inl rfl
          · exact .inr (.inr (.inl (none_of hcl hfi (by decide))))
        · -- 13
          rintro ρ f w' ⟨row, hF⟩ hfi hw hcl hf
          have hu := hf.1 24 (by simp [Op.operands])
          have hou := hF.each 12 (.own _ 13) _ rfl hu hfi
          refine ok_value (v := ρ (.tmp 24)) (w' := w') (by simp [execOp]) (hF.turn 13 (KCr.of ps ++ ([x] : List KCr.α)) 14 _ rfl (grownBy_below (Below.refl _ _) _) (.inl rfl) hou (.inr (hw 12 (by decide))) ?_)
          intro j ms m h
          obtain ⟨rfl, rfl⟩ | ⟨rfl, rfl⟩ := HOI.out j ms m h
          · exact .inr (.inl rfl)
          · exact .inl rfl
      case fini =>
        rintro vs w8 hlen ⟨row, hF⟩
        have hl0 : vs.length = 14 := hlen
        clear hlen
        obtain ⟨v0, t0, rfl, hl1⟩ := uncons hl0
        clear hl0
        obtain ⟨v1, t1, rfl, hl2⟩ := uncons hl1
        clear hl1
        obtain ⟨v2, t2, rfl, hl3⟩ := uncons hl2
        clear hl2
        obtain ⟨v3, t3, rfl, hl4⟩ := uncons hl3
        clear hl3
        obtain ⟨v4, t4, rfl, hl5⟩ := uncons hl4
        clear hl4
        obtain ⟨v5, t5, rfl, hl6⟩ := uncons hl5
        clear hl5
        obtain ⟨v6, t6, rfl, hl7⟩ := uncons hl6
        clear hl6
        obtain ⟨v7, t7, rfl, hl8⟩ := uncons hl7
        clear hl7
        obtain ⟨v8, t8, rfl, hl9⟩ := uncons hl8
        clear hl8
        obtain ⟨v9, t9, rfl, hl10⟩ := uncons hl9
        clear hl9
        obtain ⟨v10, t10, rfl, hl11⟩ := uncons hl10
        clear hl10
        obtain ⟨v11, t11, rfl, hl12⟩ := uncons hl11
        clear hl11
        obtain ⟨v12, t12, rfl, hl13⟩ := uncons hl12
        clear hl12
        obtain ⟨v13, t13, rfl, hl14⟩ := uncons hl13
        clear hl13
        obtain rfl := List.eq_nil_of_length_eq_zero hl14
        clear hl14
        obtain ⟨qs, hq1, hq2, -⟩ := hF.each 13 (.own _ 14) v13 rfl rfl rfl
        have hb8 := hF.below
        clear hF HOI
        have HB8 := Lib.hid (HB0.out.trans hb8)
        have HO8 := Lib.hid hq2
        have HQL : Hid (qs.length = k + 1) := Lib.hid (by have h1 := congrArg List.length hq1; have h2 := HP.out.2; rw [List.length_append] at h1; unfold Kd.of at h1; rw [List.length_map, List.length_map] at h1; exact h1.trans (by rw [h2]; rfl))
        have HQ8 : Hid (KCr.of qs = xs.take k ++ [x]) := Lib.hid (by rw [hq1, HP.out.1]; rfl)
        clear hb8 hq2 hq1
        simp only [putAll, List.zip_cons_cons, List.zip_nil_right, List.foldl_cons, List.foldl_nil]
        simp only [Act.put, List.setIfInBounds_toArray, List.set_cons_succ, List.set_cons_zero]
        go_wp2_with fail
        exact ⟨⟨k + 1, qs, by omega, by simp, HB8.out, HO8.out, by rw [HTK.out]; exact HQ8.out, HQL.out⟩, by simp [intOf]; omega⟩
    · obtain rfl : k = la := by omega
      have hd : decide ((k : Int) < (k : Int)) = false := by simp
      have HB := Lib.hid hB
      have HO := Lib.hid hO
      have HP : Hid (KCr.of ps = xs) := Lib.hid (by rw [hps, List.take_of_length_le (by have := HA.out.length; omega)])
      clear hB hO hps
      go_wp2_with fail
      exact bodyPost_ret (v := u3) (by simp [results, Try.results13, go_sem]) rfl ⟨⟨_, ps, rfl, HO.out, HP.out⟩, HB.out⟩
end Go.Proofs.Ytikdkhiehfccpaa
