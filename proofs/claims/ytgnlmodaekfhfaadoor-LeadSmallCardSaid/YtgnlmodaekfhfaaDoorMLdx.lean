/- LdX, LdY, LdZ in one text. -/
import Derived.Test.YtgnlmodaekfhfaaDoorLdN
import Derived.Test.YtgnlmodaekfhfaaDoorLdU

/- A deal that is right, and the examples of chapter 14: what the tables of finesselaw14.awake do. -/
namespace Go.Proofs.YtgnlmodaekfhfaaDoor
open Go.RowKit Go.Shelf Go.Sort

theorem Kept.toBelow {W W' : World} {B n : Nat} (h : Kept (fun k => k ≠ B) W W') (hn : n ≤ B) (hs : n ≤ W.heap.size) : Below n W W' :=
  ⟨h.os, h.tape, h.output, h.size, fun i hi => h.block i (by show i ≠ B; omega) (by omega)⟩
theorem cnt_or (a b : Nat) (hd : ∀ c, a.testBit c = true → b.testBit c = false) : ∀ k, cnt (lor a b) k = cnt a k + cnt b k
  | 0 => rfl
  | k + 1 => by
    simp only [cnt, cnt_or a b hd k, testBit_lor]
    cases ha : a.testBit k
    · simp; omega
    · rw [hd k ha]; simp; omega
theorem cnt_52 (m : Nat) (h : m < 4503599627370496) : pop m = cnt m 52 := by
  have e : ∀ j, cnt m (52 + j) = cnt m 52 := by
    intro j
    induction j with
    | zero => rfl
    | succ j ih =>
      show cnt m (52 + j) + (m.testBit (52 + j)).toNat = _
      have hb : m.testBit (52 + j) = false := by
        cases hq : m.testBit (52 + j)
        · rfl
        · have := y_bit_lt (n := 52) h hq; omega
      rw [ih, hb]; rfl
  exact e 12
/-- a deal that is right has hands of one size -/
theorem dealt_deal {d : Nat → Nat} (h : dealtV d = true) : Deal4 d (pop (d 0)) := by
  unfold dealtV handOk at h
  simp only [Bool.and_eq_true, decide_eq_true_eq, beq_iff_eq] at h
  obtain ⟨⟨⟨⟨⟨⟨l0, a0⟩, p0⟩, ⟨l1, a1⟩, p1⟩, ⟨l2, a2⟩, p2⟩, ⟨l3, a3⟩, p3⟩, hp⟩ := h
  have hl : ∀ j, j < 4 → d j < 4503599627370496 := fun j hj => by rcases (show j = 0 ∨ j = 1 ∨ j = 2 ∨ j = 3 by omega) with rfl | rfl | rfl | rfl <;> assumption
  have ha : ∀ j, j < 4 → ∀ i, i < j → ∀ c, (d j).testBit c = true → (d i).testBit c = false := by
    intro j hj i hi c hc
    have h0 : land (allTo d j) (d j) = 0 := by rcases (show j = 0 ∨ j = 1 ∨ j = 2 ∨ j = 3 by omega) with rfl | rfl | rfl | rfl <;> assumption
    cases hb : (d i).testBit c
    · rfl
    · have h1 : (land (allTo d j) (d j)).testBit c = true := by rw [testBit_land, (allTo_bit d j c).2 ⟨i, hi, hb⟩, hc]; rfl
      rw [h0, Nat.zero_testBit] at h1; cases h1
  have hx : ∀ j j' c, j < 4 → j' < 4 → j ≠ j' → (d j).testBit c = true → (d j').testBit c = false := by
    intro j j' c hj hj' hne hc
    rcases Nat.lt_or_gt_of_ne hne with h1 | h1
    · cases hb : (d j').testBit c
      · rfl
      · have := ha j' hj' j h1 c hb; rw [hc] at this; cases this
    · exact ha j hj j' h1 c hc
  have hpp : ∀ j, j < 4 → pop (d j) = pop (d 0) := fun j hj => by rcases (show j = 0 ∨ j = 1 ∨ j = 2 ∨ j = 3 by omega) with rfl | rfl | rfl | rfl <;> first | rfl | assumption
  refine ⟨hl, hx, hpp, hp, ?_⟩
  have h01 : cnt (lor (d 0) (d 1)) 52 = cnt (d 0) 52 + cnt (d 1) 52 := cnt_or _ _ (fun c hc => hx 0 1 c (by omega) (by omega) (by omega) hc) 52
  have h23 : cnt (lor (d 2) (d 3)) 52 = cnt (d 2) 52 + cnt (d 3) 52 := cnt_or _ _ (fun c hc => hx 2 3 c (by omega) (by omega) (by omega) hc) 52
  have h4 : cnt (lor (lor (d 0) (d 1)) (lor (d 2) (d 3))) 52 = cnt (lor (d 0) (d 1)) 52 + cnt (lor (d 2) (d 3)) 52 := cnt_or _ _ (fun c hc => by
    rw [testBit_lor, Bool.or_eq_true] at hc
    rw [testBit_lor, Bool.or_eq_false_iff]
    rcases hc with hc | hc
    · exact ⟨hx 0 2 c (by omega) (by omega) (by omega) hc, hx 0 3 c (by omega) (by omega) (by omega) hc⟩
    · exact ⟨hx 1 2 c (by omega) (by omega) (by omega) hc, hx 1 3 c (by omega) (by omega) (by omega) hc⟩) 52
  have h52 := cnt_le (lor (lor (d 0) (d 1)) (lor (d 2) (d 3))) 52
  have e : ∀ j, j < 4 → cnt (d j) 52 = pop (d 0) := fun j hj => by rw [← cnt_52 (d j) (hl j hj), hpp j hj]
  have e0 := e 0 (by omega)
  have e1 := e 1 (by omega)
  have e2 := e 2 (by omega)
  have e3 := e 3 (by omega)
  omega
theorem deal_dealt {d : Nat → Nat} {n : Nat} (h : Deal4 d n) : dealtV d = true := by
  have hk : ∀ i, i < 4 → handOk d i = true := by
    intro i hi
    unfold handOk
    rw [decide_eq_true (h.lt i hi), h.pop i hi, h.pop 0 (by omega)]
    have : land (allTo d i) (d i) = 0 := by
      apply Nat.eq_of_testBit_eq
      intro c
      rw [Nat.zero_testBit, testBit_land, Bool.and_eq_false_iff]
      cases hb : (d i).testBit c
      · exact .inr rfl
      · left
        cases hq : (allTo d i).testBit c
        · rfl
        · obtain ⟨j, hj, hjb⟩ := (allTo_bit d i c).1 hq
          have := h.apart i j c hi (by omega) (by omega) hb
          rw [hjb] at this; cases this
    rw [this]; simp
  rw [dealt_yes hk, h.pop 0 (by omega)]
  exact decide_eq_true h.pos
theorem exH_deal : Deal4 exH 2 := dealt_deal (d := exH) (by decide +kernel)
theorem exH_w64 (i : Nat) : W64 (exH i) := by
  unfold exH
  split
  · exact maskTo_w64 _ _
  · split
    · exact maskTo_w64 _ _
    · split
      · exact maskTo_w64 _ _
      · exact maskTo_w64 _ _
/-- New of a deal of Made -/
theorem ld_New_ok {d : Nat → Nat} {n : Nat} (hd : Deal4 d n) (hw : ∀ i, W64 (d i)) (tm dc : Nat) (htm : tm ≤ 4) (hdc : dc ≤ 3) (w : World) :
    Calls Tryd.prog 14 #[.agg #[.int .u64 (d 0 : Int), .int .u64 (d 1 : Int), .int .u64 (d 2 : Int), .int .u64 (d 3 : Int)], .int .u8 (tm : Int), .int .u8 (dc : Int)] w fun e w' =>
      ∃ B, e = .returned (.tuple #[.pointer (some ⟨B, 0, none⟩), .int .i64 0]) ∧ w.heap.size ≤ B ∧ TblAt w' B (St.new d tm dc) ∧ Below w.heap.size w w' := by
  refine (ld_New d hw tm dc (by omega) (by omega) w).mono ?_
  rintro e w' ⟨hb, h⟩
  have hk : newOk d tm dc = true := by unfold newOk; rw [deal_dealt hd, decide_eq_true htm, decide_eq_true hdc]; rfl
  rcases h with ⟨h1, _⟩ | ⟨_, B, rfl, h2, h3⟩
  · rw [hk] at h1; cases h1
  · exact ⟨B, rfl, h2, h3, hb⟩

def E0 : St := St.new exH 4 2
def E1 : St := (E0.leadV 1 27).1
def F1 : St := (E1.chooseV 8).1
def G1 : St := (E1.chooseV 4).1
def G2 : St := (G1.playV 42).1
def G3 : St := (G2.playV 51).1
def G4 : St := (G3.playV 40).1
def G5 : St := (G4.playV 26).1
def G6 : St := (G5.playV 50).1
def H1 : St := (E1.chooseV 32).1
theorem E0_inv : SInv exH 2 E0 := SInv.new exH_deal (by decide) (by decide)
theorem E1_inv : SInv exH 2 E1 := E0_inv.lead exH_deal 1 27
theorem F1_inv : SInv exH 2 F1 := E1_inv.choose exH_deal 8
theorem G1_inv : SInv exH 2 G1 := E1_inv.choose exH_deal 4
theorem G2_inv : SInv exH 2 G2 := G1_inv.play exH_deal 42
theorem G3_inv : SInv exH 2 G3 := G2_inv.play exH_deal 51
theorem G4_inv : SInv exH 2 G4 := G3_inv.play exH_deal 40
theorem G5_inv : SInv exH 2 G5 := G4_inv.play exH_deal 26
theorem G6_inv : SInv exH 2 G6 := G5_inv.play exH_deal 50
theorem H1_inv : SInv exH 2 H1 := E1_inv.choose exH_deal 32
theorem E_vals : (E0.leadV 1 27).2 = 0 ∧ E1.choicesV = 61 ∧ E1.pend = true ∧ (E1.chooseV 8).2 = 0 ∧ (E1.chooseV 4).2 = 0 ∧ (E1.chooseV 32).2 = 0 := by decide +kernel
theorem F_vals : F1.legal = maskV [42, 41] ∧ F1.must = 4 := by decide +kernel
theorem G_vals : (G1.playV 42).2 = 0 ∧ (G2.playV 51).2 = 0 ∧ G3.legal = maskV [40] ∧ (G3.playV 40).2 = 0 ∧ (G4.playV 26).2 = 0 ∧ (G5.playV 50).2 = 0 ∧ G6.legal = maskV [27] := by decide +kernel
theorem H_vals : H1.dc = 0 ∧ H1.legal = maskV [26] := by decide +kernel
section
variable {d : Nat → Nat} {n : Nat} {s : St} {w : World} {B : Nat}
/-- Play on a table of a deal -/
theorem tb_Play (hd : Deal4 d n) (hi : SInv d n s) (hA : TblAt w B s) (hT : Tab w) (c : Nat) :
    Calls Tryd.prog 16 #[.pointer (some ⟨B, 0, none⟩), .int .u8 (c : Int)] w fun e w' => e = .returned (.int .i64 ((s.playV c).2 : Int)) ∧ TblAt w' B (s.playV c).1 ∧ Kept (fun k => k ≠ B) w w' :=
  ld_Play hi.ok (hi.toSCore.md hd) hA hT (fun h => hi.toSCore.legal52 h)
theorem tb_Lead (hd : Deal4 d n) (hi : SInv d n s) (hA : TblAt w B s) (hT : Tab w) (seat c : Nat) (hse : seat < 256) :
    Calls Tryd.prog 15 #[.pointer (some ⟨B, 0, none⟩), .int .u8 (seat : Int), .int .u8 (c : Int)] w fun e w' => e = .returned (.int .i64 ((s.leadV seat c).2 : Int)) ∧ TblAt w' B (s.leadV seat c).1 ∧ Kept (fun k => k ≠ B) w w' :=
  ld_Lead hi.ok (hi.toSCore.md hd) hA hT hse (fun h => hi.toSCore.legal52 h)
theorem tb_Choose (hd : Deal4 d n) (hi : SInv d n s) (hA : TblAt w B s) (choice : Nat) :
    Calls Tryd.prog 17 #[.pointer (some ⟨B, 0, none⟩), .int .u8 (choice : Int)] w fun e w' => e = .returned (.int .i64 ((s.chooseV choice).2 : Int)) ∧ TblAt w' B (s.chooseV choice).1 ∧ Kept (fun k => k ≠ B) w w' :=
  ld_Choose hi.ok (hi.toSCore.md hd) hA
theorem tb_Legal (hd : Deal4 d n) (hi : SInv d n s) (hA : TblAt w B s) (hT : Tab w) :
    Calls Tryd.prog 18 #[.pointer (some ⟨B, 0, none⟩)] w fun e w' => e = .returned (.int .u64 (s.legal : Int)) ∧ Below w.heap.size w w' :=
  ld_Legal hi.ok (hi.toSCore.md hd) hA hT
theorem tb_State (hd : Deal4 d n) (hi : SInv d n s) (hA : TblAt w B s) {SA : Array Value} (h : SA = s.cells) :
    Calls Tryd.prog 19 #[.pointer (some ⟨B, 0, none⟩)] w fun e w' => e = .returned (.agg SA) ∧ Below w.heap.size w w' := by
  rw [h]; exact ld_State (hi.toSCore.md hd) hA
theorem tb_Choices (hd : Deal4 d n) (hi : SInv d n s) (hA : TblAt w B s) :
    Calls Tryd.prog 22 #[.pointer (some ⟨B, 0, none⟩)] w fun e w' => e = .returned (.int .u8 (s.choicesV : Int)) ∧ Below w.heap.size w w' :=
  ld_Choices hi.ok (hi.toSCore.md hd) hA
theorem tb_Turn (hd : Deal4 d n) (hi : SInv d n s) (hA : TblAt w B s) :
    Calls Tryd.prog 26 #[.pointer (some ⟨B, 0, none⟩)] w fun e w' => e = .returned (.tuple #[.int .u8 (s.turnV.1 : Int), .int .i64 (s.turnV.2 : Int)]) ∧ Below w.heap.size w w' :=
  ld_Turn hi.ok (hi.toSCore.md hd) hA
theorem tb_Demand (hd : Deal4 d n) (hi : SInv d n s) (hA : TblAt w B s) (suit : Nat) (req : Bool) (hsu : suit < 256) :
    Calls Tryd.prog 23 #[.pointer (some ⟨B, 0, none⟩), .int .u8 (suit : Int), .bool req] w fun e w' => e = .returned (.int .i64 ((s.demandV suit req).2 : Int)) ∧ TblAt w' B (s.demandV suit req).1 ∧ Kept (fun k => k ≠ B) w w' :=
  ld_Demand req hi.ok (hi.toSCore.md hd) hA hsu
end
/-- fields of a state -/
theorem fld_pend (s : St) {SA : Array Value} (h : SA = s.cells) (w : World) : (Instr.field 45 (.agg SA) 9).run Tryd.prog w = .ok (.bool s.pend) w := by rw [h]; kernel_rfl
theorem fld_must (s : St) {SA : Array Value} (h : SA = s.cells) (w : World) : (Instr.field 45 (.agg SA) 11).run Tryd.prog w = .ok (.int .u8 (s.must : Int)) w := by rw [h]; kernel_rfl
theorem fld_dc (s : St) {SA : Array Value} (h : SA = s.cells) (w : World) : (Instr.field 45 (.agg SA) 3).run Tryd.prog w = .ok (.int .u8 (s.dc : Int)) w := by rw [h]; kernel_rfl
theorem fld_ct (s : St) {SA : Array Value} (h : SA = s.cells) (w : World) : (Instr.field 45 (.agg SA) 5).run Tryd.prog w = .ok (.int .u8 (s.ct : Int)) w := by rw [h]; kernel_rfl
end Go.Proofs.YtgnlmodaekfhfaaDoor

/- finesselaw14.awake over this seat's program. -/
namespace Go.Proofs.YtgnlmodaekfhfaaDoor
open Go.RowKit Go.Shelf Go.Sort

theorem byt_one (w : World) (a : Nat) (ha : a < 256) : Byt (w.alloc (.cells #[.int .u8 (a : Int)] 5)) (some ⟨w.heap.size, 0, none⟩) 1 [a] :=
  byt_new w [a] (by simp [ha]) (by simp) (by simp)
theorem byt_40 (w : World) : Byt (w.alloc (.cells #[.int .u8 40] 5)) (some ⟨w.heap.size, 0, none⟩) 1 [40] := byt_one w 40 (by decide)
theorem byt_27 (w : World) : Byt (w.alloc (.cells #[.int .u8 27] 5)) (some ⟨w.heap.size, 0, none⟩) 1 [27] := byt_one w 27 (by decide)
theorem byt_26 (w : World) : Byt (w.alloc (.cells #[.int .u8 26] 5)) (some ⟨w.heap.size, 0, none⟩) 1 [26] := byt_one w 26 (by decide)
theorem aw_New (w : World) : Calls Tryd.prog 14 #[.agg (arr4 exH), .int .u8 4, .int .u8 2] w fun e w' =>
      ∃ B, e = .returned (.tuple #[.pointer (some ⟨B, 0, none⟩), .int .i64 0]) ∧ w.heap.size ≤ B ∧ TblAt w' B E0 ∧ Below w.heap.size w w' := ld_New_ok exH_deal exH_w64 4 2 (by decide) (by decide) w
section
variable {w : World} {B : Nat}
theorem aw_lead (hA : TblAt w B E0) (hT : Tab w) : Calls Tryd.prog 15 #[.pointer (some ⟨B, 0, none⟩), .int .u8 1, .int .u8 27] w fun e w' => e = .returned (.int .i64 0) ∧ TblAt w' B E1 ∧ Kept (fun k => k ≠ B) w w' :=
  (tb_Lead exH_deal E0_inv hA hT 1 27 (by decide)).mono (by rintro e w' ⟨rfl, h⟩; exact ⟨by rw [E_vals.1]; rfl, h⟩)
theorem aw_choices (hA : TblAt w B E1) : Calls Tryd.prog 22 #[.pointer (some ⟨B, 0, none⟩)] w fun e w' => e = .returned (.int .u8 61) ∧ Below w.heap.size w w' :=
  (tb_Choices exH_deal E1_inv hA).mono (by rintro e w' ⟨rfl, h⟩; exact ⟨by rw [E_vals.2.1]; rfl, h⟩)
theorem aw_f1 (hA : TblAt w B E1) : Calls Tryd.prog 17 #[.pointer (some ⟨B, 0, none⟩), .int .u8 8] w fun e w' => e = .returned (.int .i64 0) ∧ TblAt w' B F1 ∧ Kept (fun k => k ≠ B) w w' :=
  (tb_Choose exH_deal E1_inv hA 8).mono (by rintro e w' ⟨rfl, h⟩; exact ⟨by rw [E_vals.2.2.2.1]; rfl, h⟩)
theorem aw_g1 (hA : TblAt w B E1) : Calls Tryd.prog 17 #[.pointer (some ⟨B, 0, none⟩), .int .u8 4] w fun e w' => e = .returned (.int .i64 0) ∧ TblAt w' B G1 ∧ Kept (fun k => k ≠ B) w w' :=
  (tb_Choose exH_deal E1_inv hA 4).mono (by rintro e w' ⟨rfl, h⟩; exact ⟨by rw [E_vals.2.2.2.2.1]; rfl, h⟩)
theorem aw_h1 (hA : TblAt w B E1) : Calls Tryd.prog 17 #[.pointer (some ⟨B, 0, none⟩), .int .u8 32] w fun e w' => e = .returned (.int .i64 0) ∧ TblAt w' B H1 ∧ Kept (fun k => k ≠ B) w w' :=
  (tb_Choose exH_deal E1_inv hA 32).mono (by rintro e w' ⟨rfl, h⟩; exact ⟨by rw [E_vals.2.2.2.2.2]; rfl, h⟩)
theorem aw_g2 (hA : TblAt w B G1) (hT : Tab w) : Calls Tryd.prog 16 #[.pointer (some ⟨B, 0, none⟩), .int .u8 42] w fun e w' => e = .returned (.int .i64 0) ∧ TblAt w' B G2 ∧ Kept (fun k => k ≠ B) w w' :=
  (tb_Play exH_deal G1_inv hA hT 42).mono (by rintro e w' ⟨rfl, h⟩; exact ⟨by rw [G_vals.1]; rfl, h⟩)
theorem aw_g3 (hA : TblAt w B G2) (hT : Tab w) : Calls Tryd.prog 16 #[.pointer (some ⟨B, 0, none⟩), .int .u8 51] w fun e w' => e = .returned (.int .i64 0) ∧ TblAt w' B G3 ∧ Kept (fun k => k ≠ B) w w' :=
  (tb_Play exH_deal G2_inv hA hT 51).mono (by rintro e w' ⟨rfl, h⟩; exact ⟨by rw [G_vals.2.1]; rfl, h⟩)
theorem aw_g4 (hA : TblAt w B G3) (hT : Tab w) : Calls Tryd.prog 16 #[.pointer (some ⟨B, 0, none⟩), .int .u8 40] w fun e w' => e = .returned (.int .i64 0) ∧ TblAt w' B G4 ∧ Kept (fun k => k ≠ B) w w' :=
  (tb_Play exH_deal G3_inv hA hT 40).mono (by rintro e w' ⟨rfl, h⟩; exact ⟨by rw [G_vals.2.2.2.1]; rfl, h⟩)
theorem aw_g5 (hA : TblAt w B G4) (hT : Tab w) : Calls Tryd.prog 16 #[.pointer (some ⟨B, 0, none⟩), .int .u8 26] w fun e w' => e = .returned (.int .i64 0) ∧ TblAt w' B G5 ∧ Kept (fun k => k ≠ B) w w' :=
  (tb_Play exH_deal G4_inv hA hT 26).mono (by rintro e w' ⟨rfl, h⟩; exact ⟨by rw [G_vals.2.2.2.2.1]; rfl, h⟩)
theorem aw_g6 (hA : TblAt w B G5) (hT : Tab w) : Calls Tryd.prog 16 #[.pointer (some ⟨B, 0, none⟩), .int .u8 50] w fun e w' => e = .returned (.int .i64 0) ∧ TblAt w' B G6 ∧ Kept (fun k => k ≠ B) w w' :=
  (tb_Play exH_deal G5_inv hA hT 50).mono (by rintro e w' ⟨rfl, h⟩; exact ⟨by rw [G_vals.2.2.2.2.2.1]; rfl, h⟩)
theorem aw_lf (hA : TblAt w B F1) (hT : Tab w) : Calls Tryd.prog 18 #[.pointer (some ⟨B, 0, none⟩)] w fun e w' => e = .returned (.int .u64 (maskV [42, 41] : Int)) ∧ Below w.heap.size w w' :=
  (tb_Legal exH_deal F1_inv hA hT).mono (by rintro e w' ⟨rfl, h⟩; exact ⟨by rw [F_vals.1], h⟩)
theorem aw_lg3 (hA : TblAt w B G3) (hT : Tab w) : Calls Tryd.prog 18 #[.pointer (some ⟨B, 0, none⟩)] w fun e w' => e = .returned (.int .u64 (maskV [40] : Int)) ∧ Below w.heap.size w w' :=
  (tb_Legal exH_deal G3_inv hA hT).mono (by rintro e w' ⟨rfl, h⟩; exact ⟨by rw [G_vals.2.2.1], h⟩)
theorem aw_lg6 (hA : TblAt w B G6) (hT : Tab w) : Calls Tryd.prog 18 #[.pointer (some ⟨B, 0, none⟩)] w fun e w' => e = .returned (.int .u64 (maskV [27] : Int)) ∧ Below w.heap.size w w' :=
  (tb_Legal exH_deal G6_inv hA hT).mono (by rintro e w' ⟨rfl, h⟩; exact ⟨by rw [G_vals.2.2.2.2.2.2], h⟩)
theorem aw_lh (hA : TblAt w B H1) (hT : Tab w) : Calls Tryd.prog 18 #[.pointer (some ⟨B, 0, none⟩)] w fun e w' => e = .returned (.int .u64 (maskV [26] : Int)) ∧ Below w.heap.size w w' :=
  (tb_Legal exH_deal H1_inv hA hT).mono (by rintro e w' ⟨rfl, h⟩; exact ⟨by rw [H_vals.2], h⟩)
end
set_option maxHeartbeats 4000000 in
set_option maxRecDepth 10000 in
theorem law_awake14 (w : World) (hT : Tab w) : Calls Tryd.prog 11 #[] w fun e w' => e = .returned (.bool true) ∧ Below w.heap.size w w' := by
  have HT0 := Lib.hid hT
  clear hT
  obtain ⟨SE, hSE⟩ : ∃ SE, SE = E1.cells := ⟨_, rfl⟩
  obtain ⟨SF, hSF⟩ : ∃ SF, SF = F1.cells := ⟨_, rfl⟩
  obtain ⟨SH, hSH⟩ : ∃ SH, SH = H1.cells := ⟨_, rfl⟩
  have fE := fld_pend E1 hSE
  rw [E_vals.2.2.1] at fE
  have fF := fld_must F1 hSF
  rw [F_vals.2] at fF
  have fH := fld_dc H1 hSH
  rw [H_vals.1] at fH
  have HSE := Lib.hid hSE
  have HSF := Lib.hid hSF
  have HSH := Lib.hid hSH
  obtain ⟨XA, hXA⟩ : ∃ XA, XA = arr4 exH := ⟨_, rfl⟩
  have HEX := Lib.hid (fun W => law_Example W)
  have HNW := Lib.hid (fun W => aw_New W)
  rw [← hXA] at HEX HNW
  clear hSE hSF hSH hXA
  go_enter Tryd.func11, Tryd.ntmps11
  go_wp2_with fail
  go_loopw [4] (fun i wr => ∃ k : Nat, k ≤ 3 ∧ i = .int .i64 (k : Int) ∧ Below w.heap.size w wr) (fun i _ => 3 - (intOf i).toNat)
  case atStart => exact ⟨0, by omega, rfl, Below.refl _ _⟩
  case round =>
    obtain ⟨k, hk, rfl, hB⟩ := hrel
    by_cases hlt : k < 3
    · have HBr := Lib.hid hB
      clear hB
      rcases (show k = 0 ∨ k = 1 ∨ k = 2 by omega) with rfl | rfl | rfl
      · go_wp2_with fail
        refine (HEX.out wr).mono ?_
        rintro e w1 ⟨rfl, hb⟩
        have HB1 := Lib.hid (HBr.out.trans (hb.mono HBr.out.size))
        clear hb
        go_wp2_with fail
        refine (HNW.out w1).mono ?_
        rintro e w2 ⟨B, rfl, hBB, hr, hb⟩
        have HBB : Hid (w.heap.size ≤ B) := Lib.hid (Nat.le_trans HB1.out.size hBB)
        have HB2 := Lib.hid (HB1.out.trans (hb.mono HB1.out.size))
        have HR2 := Lib.hid hr
        have HT2 := Lib.hid (HT0.out.below HT0.out.pos HB2.out)
        clear hb hr hBB
        go_wp2_with fail
        refine (aw_lead HR2.out HT2.out).mono ?_
        rintro e w3 ⟨rfl, hr, hk⟩
        have HB3 := Lib.hid (HB2.out.trans (hk.toBelow HBB.out HB2.out.size))
        have HR3 := Lib.hid hr
        have HT3 := Lib.hid (HT0.out.below HT0.out.pos HB3.out)
        clear hr hk
        go_wp2_with fail
        refine (aw_choices HR3.out).mono ?_
        rintro e w4 ⟨rfl, hb⟩
        have HB4 := Lib.hid (HB3.out.trans (hb.mono HB3.out.size))
        have HR4 := Lib.hid (HR3.out.below HR3.out.lt hb)
        have HT4 := Lib.hid (HT0.out.below HT0.out.pos HB4.out)
        clear hb
        go_wp2_with fail
        refine (tb_State exH_deal E1_inv HR4.out HSE.out).mono ?_
        rintro e w5 ⟨rfl, hb⟩
        have HB5 := Lib.hid (HB4.out.trans (hb.mono HB4.out.size))
        have HR5 := Lib.hid (HR4.out.below HR4.out.lt hb)
        have HT5 := Lib.hid (HT0.out.below HT0.out.pos HB5.out)
        clear hb
        go_wp2_with fail
        refine (aw_f1 HR5.out).mono ?_
        rintro e w6 ⟨rfl, hr, hk⟩
        have HB6 := Lib.hid (HB5.out.trans (hk.toBelow HBB.out HB5.out.size))
        have HR6 := Lib.hid hr
        have HT6 := Lib.hid (HT0.out.below HT0.out.pos HB6.out)
        clear hr hk
        go_wp2_with fail
        refine (aw_lf HR6.out HT6.out).mono ?_
        rintro e w7 ⟨rfl, hb⟩
        have HB7 := Lib.hid (HB6.out.trans (hb.mono HB6.out.size))
        have HR7 := Lib.hid (HR6.out.below HR6.out.lt hb)
        have HT7 := Lib.hid (HT0.out.below HT0.out.pos HB7.out)
        clear hb
        go_wp2_with fail
        refine (law_mask _ 2 2 [42, 41] _ (byt_d w7)).mono ?_
        rintro e w' ⟨rfl, rfl⟩
        have HB8 := Lib.hid (HB7.out.alloc HB7.out.size (.cells #[.int .u8 42, .int .u8 41] 5))
        have HR8 := Lib.hid (HR7.out.alloc (.cells #[.int .u8 42, .int .u8 41] 5))
        have HT8 := Lib.hid (HT0.out.below HT0.out.pos HB8.out)
        generalize w7.alloc (.cells #[.int .u8 42, .int .u8 41] 5) = w8 at *
        go_wp2_with fail
        refine (tb_State exH_deal F1_inv HR8.out HSF.out).mono ?_
        rintro e w9 ⟨rfl, hb⟩
        have HB9 := Lib.hid (HB8.out.trans (hb.mono HB8.out.size))
        have HR9 := Lib.hid (HR8.out.below HR8.out.lt hb)
        have HT9 := Lib.hid (HT0.out.below HT0.out.pos HB9.out)
        clear hb
        go_wp2_with fail
        go_roundw
        case rel => exact ⟨1, by omega, by go_num, HB9.out⟩
        case measure => simp [intOf]
      · go_wp2_with fail
        refine (HEX.out wr).mono ?_
        rintro e w1 ⟨rfl, hb⟩
        have HB1 := Lib.hid (HBr.out.trans (hb.mono HBr.out.size))
        clear hb
        go_wp2_with fail
        refine (HNW.out w1).mono ?_
        rintro e w2 ⟨B, rfl, hBB, hr, hb⟩
        have HBB : Hid (w.heap.size ≤ B) := Lib.hid (Nat.le_trans HB1.out.size hBB)
        have HB2 := Lib.hid (HB1.out.trans (hb.mono HB1.out.size))
        have HR2 := Lib.hid hr
        have HT2 := Lib.hid (HT0.out.below HT0.out.pos HB2.out)
        clear hb hr hBB
        go_wp2_with fail
        refine (aw_lead HR2.out HT2.out).mono ?_
        rintro e w3 ⟨rfl, hr, hk⟩
        have HB3 := Lib.hid (HB2.out.trans (hk.toBelow HBB.out HB2.out.size))
        have HR3 := Lib.hid hr
        have HT3 := Lib.hid (HT0.out.below HT0.out.pos HB3.out)
        clear hr hk
        go_wp2_with fail
        refine (aw_choices HR3.out).mono ?_
        rintro e w4 ⟨rfl, hb⟩
        have HB4 := Lib.hid (HB3.out.trans (hb.mono HB3.out.size))
        have HR4 := Lib.hid (HR3.out.below HR3.out.lt hb)
        have HT4 := Lib.hid (HT0.out.below HT0.out.pos HB4.out)
        clear hb
        go_wp2_with fail
        refine (tb_State exH_deal E1_inv HR4.out HSE.out).mono ?_
        rintro e w5 ⟨rfl, hb⟩
        have HB5 := Lib.hid (HB4.out.trans (hb.mono HB4.out.size))
        have HR5 := Lib.hid (HR4.out.below HR4.out.lt hb)
        have HT5 := Lib.hid (HT0.out.below HT0.out.pos HB5.out)
        clear hb
        go_wp2_with fail
        refine (aw_g1 HR5.out).mono ?_
        rintro e w6 ⟨rfl, hr, hk⟩
        have HB6 := Lib.hid (HB5.out.trans (hk.toBelow HBB.out HB5.out.size))
        have HR6 := Lib.hid hr
        have HT6 := Lib.hid (HT0.out.below HT0.out.pos HB6.out)
        clear hr hk
        go_wp2_with fail
        refine (aw_g2 HR6.out HT6.out).mono ?_
        rintro e w7 ⟨rfl, hr, hk⟩
        have HB7 := Lib.hid (HB6.out.trans (hk.toBelow HBB.out HB6.out.size))
        have HR7 := Lib.hid hr
        have HT7 := Lib.hid (HT0.out.below HT0.out.pos HB7.out)
        clear hr hk
        go_wp2_with fail
        refine (aw_g3 HR7.out HT7.out).mono ?_
        rintro e w8 ⟨rfl, hr, hk⟩
        have HB8 := Lib.hid (HB7.out.trans (hk.toBelow HBB.out HB7.out.size))
        have HR8 := Lib.hid hr
        have HT8 := Lib.hid (HT0.out.below HT0.out.pos HB8.out)
        clear hr hk
        go_wp2_with fail
        refine (aw_lg3 HR8.out HT8.out).mono ?_
        rintro e w9 ⟨rfl, hb⟩
        have HB9 := Lib.hid (HB8.out.trans (hb.mono HB8.out.size))
        have HR9 := Lib.hid (HR8.out.below HR8.out.lt hb)
        have HT9 := Lib.hid (HT0.out.below HT0.out.pos HB9.out)
        clear hb
        go_wp2_with fail
        refine (law_mask _ 1 1 [40] _ (byt_40 w9)).mono ?_
        rintro e w' ⟨rfl, rfl⟩
        have HB10 := Lib.hid (HB9.out.alloc HB9.out.size (.cells #[.int .u8 40] 5))
        have HR10 := Lib.hid (HR9.out.alloc (.cells #[.int .u8 40] 5))
        have HT10 := Lib.hid (HT0.out.below HT0.out.pos HB10.out)
        generalize w9.alloc (.cells #[.int .u8 40] 5) = w10 at *
        go_wp2_with fail
        refine (aw_g4 HR10.out HT10.out).mono ?_
        rintro e w11 ⟨rfl, hr, hk⟩
        have HB11 := Lib.hid (HB10.out.trans (hk.toBelow HBB.out HB10.out.size))
        have HR11 := Lib.hid hr
        have HT11 := Lib.hid (HT0.out.below HT0.out.pos HB11.out)
        clear hr hk
        go_wp2_with fail
        refine (aw_g5 HR11.out HT11.out).mono ?_
        rintro e w12 ⟨rfl, hr, hk⟩
        have HB12 := Lib.hid (HB11.out.trans (hk.toBelow HBB.out HB11.out.size))
        have HR12 := Lib.hid hr
        have HT12 := Lib.hid (HT0.out.below HT0.out.pos HB12.out)
        clear hr hk
        go_wp2_with fail
        refine (aw_g6 HR12.out HT12.out).mono ?_
        rintro e w13 ⟨rfl, hr, hk⟩
        have HB13 := Lib.hid (HB12.out.trans (hk.toBelow HBB.out HB12.out.size))
        have HR13 := Lib.hid hr
        have HT13 := Lib.hid (HT0.out.below HT0.out.pos HB13.out)
        clear hr hk
        go_wp2_with fail
        refine (aw_lg6 HR13.out HT13.out).mono ?_
        rintro e w14 ⟨rfl, hb⟩
        have HB14 := Lib.hid (HB13.out.trans (hb.mono HB13.out.size))
        have HR14 := Lib.hid (HR13.out.below HR13.out.lt hb)
        have HT14 := Lib.hid (HT0.out.below HT0.out.pos HB14.out)
        clear hb
        go_wp2_with fail
        refine (law_mask _ 1 1 [27] _ (byt_27 w14)).mono ?_
        rintro e w' ⟨rfl, rfl⟩
        have HB15 := Lib.hid (HB14.out.alloc HB14.out.size (.cells #[.int .u8 27] 5))
        have HR15 := Lib.hid (HR14.out.alloc (.cells #[.int .u8 27] 5))
        have HT15 := Lib.hid (HT0.out.below HT0.out.pos HB15.out)
        generalize w14.alloc (.cells #[.int .u8 27] 5) = w15 at *
        go_wp2_with fail
        go_roundw
        case rel => exact ⟨2, by omega, by go_num, HB15.out⟩
        case measure => simp [intOf]
      · go_wp2_with fail
        refine (HEX.out wr).mono ?_
        rintro e w1 ⟨rfl, hb⟩
        have HB1 := Lib.hid (HBr.out.trans (hb.mono HBr.out.size))
        clear hb
        go_wp2_with fail
        refine (HNW.out w1).mono ?_
        rintro e w2 ⟨B, rfl, hBB, hr, hb⟩
        have HBB : Hid (w.heap.size ≤ B) := Lib.hid (Nat.le_trans HB1.out.size hBB)
        have HB2 := Lib.hid (HB1.out.trans (hb.mono HB1.out.size))
        have HR2 := Lib.hid hr
        have HT2 := Lib.hid (HT0.out.below HT0.out.pos HB2.out)
        clear hb hr hBB
        go_wp2_with fail
        refine (aw_lead HR2.out HT2.out).mono ?_
        rintro e w3 ⟨rfl, hr, hk⟩
        have HB3 := Lib.hid (HB2.out.trans (hk.toBelow HBB.out HB2.out.size))
        have HR3 := Lib.hid hr
        have HT3 := Lib.hid (HT0.out.below HT0.out.pos HB3.out)
        clear hr hk
        go_wp2_with fail
        refine (aw_choices HR3.out).mono ?_
        rintro e w4 ⟨rfl, hb⟩
        have HB4 := Lib.hid (HB3.out.trans (hb.mono HB3.out.size))
        have HR4 := Lib.hid (HR3.out.below HR3.out.lt hb)
        have HT4 := Lib.hid (HT0.out.below HT0.out.pos HB4.out)
        clear hb
        go_wp2_with fail
        refine (tb_State exH_deal E1_inv HR4.out HSE.out).mono ?_
        rintro e w5 ⟨rfl, hb⟩
        have HB5 := Lib.hid (HB4.out.trans (hb.mono HB4.out.size))
        have HR5 := Lib.hid (HR4.out.below HR4.out.lt hb)
        have HT5 := Lib.hid (HT0.out.below HT0.out.pos HB5.out)
        clear hb
        go_wp2_with fail
        refine (aw_h1 HR5.out).mono ?_
        rintro e w6 ⟨rfl, hr, hk⟩
        have HB6 := Lib.hid (HB5.out.trans (hk.toBelow HBB.out HB5.out.size))
        have HR6 := Lib.hid hr
        have HT6 := Lib.hid (HT0.out.below HT0.out.pos HB6.out)
        clear hr hk
        go_wp2_with fail
        refine (tb_State exH_deal H1_inv HR6.out HSH.out).mono ?_
        rintro e w7 ⟨rfl, hb⟩
        have HB7 := Lib.hid (HB6.out.trans (hb.mono HB6.out.size))
        have HR7 := Lib.hid (HR6.out.below HR6.out.lt hb)
        have HT7 := Lib.hid (HT0.out.below HT0.out.pos HB7.out)
        clear hb
        go_wp2_with fail
        refine (aw_lh HR7.out HT7.out).mono ?_
        rintro e w8 ⟨rfl, hb⟩
        have HB8 := Lib.hid (HB7.out.trans (hb.mono HB7.out.size))
        have HR8 := Lib.hid (HR7.out.below HR7.out.lt hb)
        have HT8 := Lib.hid (HT0.out.below HT0.out.pos HB8.out)
        clear hb
        go_wp2_with fail
        refine (law_mask _ 1 1 [26] _ (byt_26 w8)).mono ?_
        rintro e w' ⟨rfl, rfl⟩
        have HB9 := Lib.hid (HB8.out.alloc HB8.out.size (.cells #[.int .u8 26] 5))
        have HR9 := Lib.hid (HR8.out.alloc (.cells #[.int .u8 26] 5))
        have HT9 := Lib.hid (HT0.out.below HT0.out.pos HB9.out)
        generalize w8.alloc (.cells #[.int .u8 26] 5) = w9 at *
        go_wp2_with fail
        go_roundw
        case rel => exact ⟨3, by omega, by go_num, HB9.out⟩
        case measure => simp [intOf]
    · obtain rfl : k = 3 := by omega
      go_wp2_with fail
      go_ret
      exact ⟨rfl, hB⟩
end Go.Proofs.YtgnlmodaekfhfaaDoor

/- What the walks of chapter 14's laws share. -/
namespace Go.Proofs.YtgnlmodaekfhfaaDoor
open Go.RowKit Go.Shelf Go.Sort

theorem size_sk14 : (Tryd.prog.info? 24).map (·.size) = some 4 := by kernel_rfl
theorem Sk.w64 (x : Sk) : ∀ i, W64 (x.h i) := dealN_w64 x (4 * x.n)
section
variable {d : Nat → Nat} {n : Nat} {s s' : St} {w : World} {B : Nat}
theorem tq_Play (hd : Deal4 d n) (hi : SInv d n s) (hA : TblAt w B s) (hT : Tab w) {c e : Nat} (he : s.playV c = (s', e)) :
    Calls Tryd.prog 16 #[.pointer (some ⟨B, 0, none⟩), .int .u8 (c : Int)] w fun r w' => r = .returned (.int .i64 (e : Int)) ∧ TblAt w' B s' ∧ Kept (fun k => k ≠ B) w w' := by
  have := tb_Play hd hi hA hT c
  rwa [he] at this
theorem tq_Lead (hd : Deal4 d n) (hi : SInv d n s) (hA : TblAt w B s) (hT : Tab w) {seat c e : Nat} (hse : seat < 256) (he : s.leadV seat c = (s', e)) :
    Calls Tryd.prog 15 #[.pointer (some ⟨B, 0, none⟩), .int .u8 (seat : Int), .int .u8 (c : Int)] w fun r w' => r = .returned (.int .i64 (e : Int)) ∧ TblAt w' B s' ∧ Kept (fun k => k ≠ B) w w' := by
  have := tb_Lead hd hi hA hT seat c hse
  rwa [he] at this
theorem tq_Choose (hd : Deal4 d n) (hi : SInv d n s) (hA : TblAt w B s) {choice e : Nat} (he : s.chooseV choice = (s', e)) :
    Calls Tryd.prog 17 #[.pointer (some ⟨B, 0, none⟩), .int .u8 (choice : Int)] w fun r w' => r = .returned (.int .i64 (e : Int)) ∧ TblAt w' B s' ∧ Kept (fun k => k ≠ B) w w' := by
  have := tb_Choose hd hi hA choice
  rwa [he] at this
theorem tq_Demand (hd : Deal4 d n) (hi : SInv d n s) (hA : TblAt w B s) {suit e : Nat} {req : Bool} (hsu : suit < 256) (he : s.demandV suit req = (s', e)) :
    Calls Tryd.prog 23 #[.pointer (some ⟨B, 0, none⟩), .int .u8 (suit : Int), .bool req] w fun r w' => r = .returned (.int .i64 (e : Int)) ∧ TblAt w' B s' ∧ Kept (fun k => k ≠ B) w w' := by
  have := tb_Demand hd hi hA suit req hsu
  rwa [he] at this
end
theorem fld_hands (s : St) {SA : Array Value} (h : SA = s.cells) (w : World) : (Instr.field 45 (.agg SA) 0).run Tryd.prog w = .ok (.agg (arr4 s.h)) w := by rw [h]; kernel_rfl
theorem fld_pn (s : St) {SA : Array Value} (h : SA = s.cells) (w : World) : (Instr.field 45 (.agg SA) 1).run Tryd.prog w = .ok (.agg (arr4 s.pn)) w := by rw [h]; kernel_rfl
theorem index_arr4 (h : Nat → Nat) (k : Nat) (hk : k < 4) (w : World) : (Instr.index 29 (.agg (arr4 h)) (.int .u8 (k : Int))).run Tryd.prog w = .ok (.int .u64 (h k : Int)) w := by
  rcases (show k = 0 ∨ k = 1 ∨ k = 2 ∨ k = 3 by omega) with rfl | rfl | rfl | rfl <;> kernel_rfl
theorem sm_shl (k : Nat) (hk : k < 4) : IntKind.u64.wrap (8191 * 2 ^ (13 * k)) = (sm k : Int) := by
  rcases (show k = 0 ∨ k = 1 ∨ k = 2 ∨ k = 3 by omega) with rfl | rfl | rfl | rfl <;> rfl
theorem st_pget (s : St) (k : Nat) (hk : k < 4) : s.cells[4 + k]? = some (.int .u64 (s.pn k : Int)) := by
  rcases (show k = 0 ∨ k = 1 ∨ k = 2 ∨ k = 3 by omega) with h | h | h | h <;> rw [h] <;> rfl
theorem da_get {DA : Array Value} {d : Nat → Nat} (h : DA = arr4 d) (k : Nat) (hk : k < 4) : DA[k]? = some (.int .u64 (d k : Int)) := by rw [h]; exact arr4_get d k hk
end Go.Proofs.YtgnlmodaekfhfaaDoor
