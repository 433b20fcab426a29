/- finesselaw12.look, and the comparison of what it returns, over this seat's program. -/
import Derived.Test.YtginbellakkliaaDoorMPyx
import Derived.Laws.StructEq
namespace Go.Proofs.YtginbellakkliaaDoor
open Go.RowKit Go.Shelf Go.Sort
attribute [local go_sem] Oper.semAt_some

theorem eq_deal9 (a b : Nat → Nat) (w : World) : Sem.run Tryd.prog (Op.equalIn 9999 26 (.agg #[.int .u64 (a 0 : Int), .int .u64 (a 1 : Int), .int .u64 (a 2 : Int), .int .u64 (a 3 : Int)]) (.agg #[.int .u64 (b 0 : Int), .int .u64 (b 1 : Int), .int .u64 (b 2 : Int), .int .u64 (b 3 : Int)])) w =
    .ok (a 0 == b 0 && a 1 == b 1 && a 2 == b 2 && a 3 == b 3) w := by
  obtain ⟨i, hi⟩ : ∃ i, Tryd.prog.info? 24 = some i := by
    have h : (Tryd.prog.info? 24).isSome = true := by kernel_rfl
    exact Option.isSome_iff_exists.1 h
  rw [run_equalIn_array (P := Tryd.prog) w 9998 _ _ Tryd.underlying26 hi]
  have kc : Tryd.prog.cellsOf 24 = 1 := by kernel_rfl
  have h8 : Tryd.prog.underlying 24 = some (.int .u64) := Tryd.underlying24
  have hc : ∀ x y : Nat, (((x : Int) == (y : Int)) : Bool) = (x == y) := fun x y => by
    by_cases h : x = y
    · subst h; simp
    · rw [beq_eq_false_iff_ne.2 h, beq_eq_false_iff_ne.2 (by omega)]
  rw [kc, show List.range 4 = [0, 1, 2, 3] from rfl]
  have hp : ∀ (c : Nat → Nat) (k : Nat), k < 4 → ∀ w, Sem.run Tryd.prog (part 24 #[.int .u64 (c 0 : Int), .int .u64 (c 1 : Int), .int .u64 (c 2 : Int), .int .u64 (c 3 : Int)] (k * 1)) w = .ok (.int .u64 (c k : Int)) w := by
    intro c k hk w
    rcases (show k = 0 ∨ k = 1 ∨ k = 2 ∨ k = 3 by omega) with rfl | rfl | rfl | rfl <;> kernel_rfl
  have step : ∀ (k : Nat), k < 4 → ∀ is w, Sem.run Tryd.prog (Op.eqItems 9998 24 1 #[.int .u64 (a 0 : Int), .int .u64 (a 1 : Int), .int .u64 (a 2 : Int), .int .u64 (a 3 : Int)] #[.int .u64 (b 0 : Int), .int .u64 (b 1 : Int), .int .u64 (b 2 : Int), .int .u64 (b 3 : Int)] (k :: is)) w =
      if (a k == b k) = true then Sem.run Tryd.prog (Op.eqItems 9998 24 1 #[.int .u64 (a 0 : Int), .int .u64 (a 1 : Int), .int .u64 (a 2 : Int), .int .u64 (a 3 : Int)] #[.int .u64 (b 0 : Int), .int .u64 (b 1 : Int), .int .u64 (b 2 : Int), .int .u64 (b 3 : Int)] is) w else .ok false w := by
    intro k hk is w
    have he := run_equalIn_int (P := Tryd.prog) w 9997 24 .u64 .u64 (a k : Int) (b k : Int) h8
    rw [hc] at he
    rw [Op.eqItems, Sem.run_bind, hp a k hk, Result.andThen_ok, Sem.run_bind, hp b k hk, Result.andThen_ok, Sem.run_bind, he, Result.andThen_ok]
    cases a k == b k
    · simp
    · simp
  have last : ∀ w, Sem.run Tryd.prog (Op.eqItems 9998 24 1 #[.int .u64 (a 0 : Int), .int .u64 (a 1 : Int), .int .u64 (a 2 : Int), .int .u64 (a 3 : Int)] #[.int .u64 (b 0 : Int), .int .u64 (b 1 : Int), .int .u64 (b 2 : Int), .int .u64 (b 3 : Int)] []) w = .ok true w := fun w => by simp [Op.eqItems]
  rw [step 0 (by omega), step 1 (by omega), step 2 (by omega), step 3 (by omega), last]
  cases a 0 == b 0 <;> cases a 1 == b 1 <;> cases a 2 == b 2 <;> cases a 3 == b 3 <;> rfl
/-- what look returns -/
structure Tld where
  t : Nat
  e : Nat
  L : Nat
  h : Nat → Nat
  ns : Nat
  ew : Nat
  mn : Nat
abbrev Tld.cells (x : Tld) : Array Value := #[.int .u8 (x.t : Int), .int .i64 (x.e : Int), .int .u64 (x.L : Int), .int .u64 (x.h 0 : Int), .int .u64 (x.h 1 : Int), .int .u64 (x.h 2 : Int), .int .u64 (x.h 3 : Int), .int .i64 (x.ns : Int), .int .i64 (x.ew : Int), .int .i64 (x.mn : Int)]
theorem eq_told (x : Tld) (w : World) : Sem.run Tryd.prog (Op.equalIn 10000 51 (.agg x.cells) (.agg x.cells)) w = .ok true w := by
  rw [run_equalIn_struct (P := Tryd.prog) w 9999 _ _ _ (by kernel_rfl) (by kernel_rfl)]
  have hU := Tryd.underlying51
  simp only [Program.fieldsOf, hU]
  have p0 : Sem.run Tryd.prog (part 5 x.cells 0) w = .ok (.int .u8 (x.t : Int)) w := by kernel_rfl
  have p1 : Sem.run Tryd.prog (part 32 x.cells 1) w = .ok (.int .i64 (x.e : Int)) w := by kernel_rfl
  have p2 : Sem.run Tryd.prog (part 24 x.cells 2) w = .ok (.int .u64 (x.L : Int)) w := by kernel_rfl
  have p3 : Sem.run Tryd.prog (part 26 x.cells 3) w = .ok (.agg #[.int .u64 (x.h 0 : Int), .int .u64 (x.h 1 : Int), .int .u64 (x.h 2 : Int), .int .u64 (x.h 3 : Int)]) w := by kernel_rfl
  have p7 : Sem.run Tryd.prog (part 3 x.cells 7) w = .ok (.int .i64 (x.ns : Int)) w := by kernel_rfl
  have p8 : Sem.run Tryd.prog (part 3 x.cells 8) w = .ok (.int .i64 (x.ew : Int)) w := by kernel_rfl
  have p9 : Sem.run Tryd.prog (part 3 x.cells 9) w = .ok (.int .i64 (x.mn : Int)) w := by kernel_rfl
  have e0 := run_equalIn_int (P := Tryd.prog) w 9998 5 .u8 .u8 (x.t : Int) (x.t : Int) Tryd.underlying5
  have e1 := run_equalIn_int (P := Tryd.prog) w 9998 32 .i64 .i64 (x.e : Int) (x.e : Int) Tryd.underlying32
  have e2 := run_equalIn_int (P := Tryd.prog) w 9998 24 .u64 .u64 (x.L : Int) (x.L : Int) Tryd.underlying24
  have e7 := run_equalIn_int (P := Tryd.prog) w 9998 3 .i64 .i64 (x.ns : Int) (x.ns : Int) Tryd.underlying3
  have e8 := run_equalIn_int (P := Tryd.prog) w 9998 3 .i64 .i64 (x.ew : Int) (x.ew : Int) Tryd.underlying3
  have e9 := run_equalIn_int (P := Tryd.prog) w 9998 3 .i64 .i64 (x.mn : Int) (x.mn : Int) Tryd.underlying3
  have e3 := eq_deal9 x.h x.h w
  simp only [beq_self_eq_true, Bool.and_self] at e0 e1 e2 e3 e7 e8 e9
  simp [Op.eqFields, p0, p1, p2, p3, p7, p8, p9, e0, e1, e2, e3, e7, e8, e9]
def Ply.tld (p : Ply) : Tld := ⟨p.turnV.1, p.turnV.2, p.st.legal, p.st.h, tkWon p.tks 0, tkWon p.tks 1, p.steps.length⟩
abbrev tldRow (t e L : Nat) (f : Nat → Nat) (ns ew mn : Nat) : Array Value := #[.int .u8 (t : Int), .int .i64 (e : Int), .int .u64 (L : Int), .int .u64 (f 0 : Int), .int .u64 (f 1 : Int), .int .u64 (f 2 : Int), .int .u64 (f 3 : Int), .int .i64 (ns : Int), .int .i64 (ew : Int), .int .i64 (mn : Int)]
theorem told_set (t e L : Nat) (f : Nat → Nat) (ns ew mn k v : Nat) (hk : k < 4) : (tldRow t e L f ns ew mn).setIfInBounds (3 + k) (.int .u64 (v : Int)) = tldRow t e L (setH f k v) ns ew mn := by
  rcases (show k = 0 ∨ k = 1 ∨ k = 2 ∨ k = 3 by omega) with rfl | rfl | rfl | rfl <;> rfl
theorem told_get (t e L : Nat) (f : Nat → Nat) (ns ew mn k : Nat) (hk : k < 4) : (tldRow t e L f ns ew mn)[3 + k]? = some (.int .u64 (f k : Int)) := by
  rcases (show k = 0 ∨ k = 1 ∨ k = 2 ∨ k = 3 by omega) with rfl | rfl | rfl | rfl <;> rfl
set_option maxHeartbeats 1000000 in
set_option maxRecDepth 100000 in
theorem law12_look {W : World} {B : Nat} {p : Ply} {G : Nat → Prop} (h : InP W B p G) :
    Calls Tryd.prog 23 #[.pointer (some ⟨B, 0, none⟩)] W fun e W' => e = .returned (.agg p.tld.cells) ∧ Below W.heap.size W W' := by
  have HTU := Lib.hid (fun (w1 : World) (hb : Below W.heap.size W w1) => in_turn (h.below hb))
  have HLE := Lib.hid (fun (w1 : World) (hb : Below W.heap.size W w1) => in_legal (h.below hb))
  have HHA := Lib.hid (fun (w1 : World) (hb : Below W.heap.size W w1) (k : Nat) (hk : k < 4) => (by
    have := in_hand (h.below hb) k (by omega)
    have hhv : p.handV k = p.st.h k := by unfold Ply.handV; rw [if_pos (by omega)]
    rw [hhv] at this; exact this : Calls Tryd.prog 22 #[.pointer (some ⟨B, 0, none⟩), .int .u8 (k : Int)] w1 fun e W' => e = .returned (.int .u64 (p.st.h k : Int)) ∧ w1 = W'))
  have HTR := Lib.hid (fun (w1 : World) (hb : Below W.heap.size W w1) => in_tricks (h.below hb))
  have HCA := Lib.hid (fun (w1 : World) (hb : Below W.heap.size W w1) => in_cards (h.below hb))
  have hmany : p.steps.length ≤ 60000 := by have := h.ok.many; omega
  have h52 : ∀ i, (p.steps.map Stp.c).getD i 0 < 52 := fun i => by
    rw [List.getD_eq_getElem?_getD]
    cases hi : (p.steps.map Stp.c)[i]? with
    | none => decide
    | some y =>
      obtain ⟨s, hs, rfl⟩ := List.mem_map.1 (List.mem_of_getElem? hi)
      exact (h.ok.steps s hs).2
  have hcl : (p.steps.map Stp.c).length = p.steps.length := List.length_map ..
  have HCL := Lib.hid hcl
  have H52 := Lib.hid h52
  have hT2 : p.turnV.1 < 256 := by unfold Ply.turnV; split; decide; (show p.st.next < 256); have := next_lt p.st; omega
  have hE2 : p.turnV.2 < 256 := by unfold Ply.turnV; split; decide; (show 0 < 256); decide
  have HX : Hid (p.tld.cells = tldRow p.turnV.1 p.turnV.2 p.st.legal p.st.h (tkWon p.tks 0) (tkWon p.tks 1) p.steps.length) := Lib.hid rfl
  have hwn : ∀ s, tkWon p.tks s ≤ 60000 := fun s => by
    have h1 : tkWon p.tks s ≤ p.tks.length := List.length_filter_le _ _
    have h2 : ∀ k, (p.tkTo k).length ≤ k := by
      intro k
      induction k with
      | zero => exact Nat.le_refl _
      | succ k ih =>
        unfold Ply.tkTo
        rw [List.length_append]
        cases p.steps[4 * k + 3]? with
        | none => simp; omega
        | some y => simp; omega
    have h3 := h2 (p.steps.length / 4)
    unfold Ply.tks at h1 ⊢
    omega
  have hw0 := hwn 0
  have hw1 := hwn 1
  obtain ⟨t, ht⟩ : ∃ t, p.turnV.1 = t := ⟨_, rfl⟩
  obtain ⟨e, he⟩ : ∃ t, p.turnV.2 = t := ⟨_, rfl⟩
  obtain ⟨L, hL⟩ : ∃ t, p.st.legal = t := ⟨_, rfl⟩
  obtain ⟨ns, hns⟩ : ∃ t, tkWon p.tks 0 = t := ⟨_, rfl⟩
  obtain ⟨ew, hew⟩ : ∃ t, tkWon p.tks 1 = t := ⟨_, rfl⟩
  obtain ⟨mn, hmn⟩ : ∃ t, p.steps.length = t := ⟨_, rfl⟩
  rw [ht, he, hL, hns, hew, hmn] at HX
  rw [ht] at hT2 HTU
  rw [he] at hE2 HTU
  rw [hL] at HLE
  rw [hns, hew] at HTR
  rw [hns] at hw0
  rw [hew] at hw1
  rw [hmn] at hmany HCL
  clear ht he hL hns hew hmn hwn h52 hcl h
  go_enter Tryd.func23, Tryd.ntmps23
  go_upto_region 2 with fail
  have hB1 : Below W.heap.size W ((W.alloc (.cells #[.int .u8 0, .int .i64 0, .int .u64 0, .int .u64 0, .int .u64 0, .int .u64 0, .int .u64 0, .int .i64 0, .int .i64 0, .int .i64 0] 51)).alloc (.cells #[.int .u8 0, .int .i64 0, .int .u64 0, .int .u64 0, .int .u64 0, .int .u64 0, .int .u64 0, .int .i64 0, .int .i64 0, .int .i64 0] 51)) := ((Below.refl _ _).alloc (Nat.le_refl _) _).alloc (by simp) _
  have hO := (Row.new W 51 (tldRow 0 0 0 (fun _ => 0) 0 0 0)).alloc (.cells #[.int .u8 0, .int .i64 0, .int .u64 0, .int .u64 0, .int .u64 0, .int .u64 0, .int .u64 0, .int .i64 0, .int .i64 0, .int .i64 0] 51)
  have hR := Row.new (W.alloc (.cells #[.int .u8 0, .int .i64 0, .int .u64 0, .int .u64 0, .int .u64 0, .int .u64 0, .int .u64 0, .int .i64 0, .int .i64 0, .int .i64 0] 51)) 51 (tldRow 0 0 0 (fun _ => 0) 0 0 0)
  rw [World.size_alloc] at hR
  generalize ((W.alloc (.cells #[.int .u8 0, .int .i64 0, .int .u64 0, .int .u64 0, .int .u64 0, .int .u64 0, .int .u64 0, .int .i64 0, .int .i64 0, .int .i64 0] 51)).alloc (.cells #[.int .u8 0, .int .i64 0, .int .u64 0, .int .u64 0, .int .u64 0, .int .u64 0, .int .u64 0, .int .i64 0, .int .i64 0, .int .i64 0] 51)) = w1 at *
  have hMW : W.heap.size ≤ W.heap.size + 1 := by omega
  have hMne : W.heap.size ≠ W.heap.size + 1 := by omega
  generalize W.heap.size + 1 = M at *
  go_upto_region 3 with (go_at_call 15; refine (HTU.out _ hB1).mono ?_; rintro e' w2 ⟨rfl, hb2⟩; have R2 := hR.below hR.lt hb2; have c0 := R2.cell 0; have f0 := R2.frozen 0; have c1 := (R2.set 0 (.int .u8 (t : Int))).cell 1; have f1 := (R2.set 0 (.int .u8 (t : Int))).frozen 1)
  have hB2 := hB1.trans (hb2.mono hB1.size)
  have R3 := (R2.set 0 (.int .u8 (t : Int))).set 1 (.int .i64 (e : Int))
  have hB3 := (hB2.setCell (p := ⟨M, 0, none⟩) hMW (.int .u8 (t : Int))).setCell (p := ⟨M, 1, none⟩) hMW (.int .i64 (e : Int))
  have hO3 := ((hO.below hO.lt hb2).other (i := 0) (v := .int .u8 (t : Int)) hMne).other (i := 1) (v := .int .i64 (e : Int)) hMne
  clear c0 f0 c1 f1 R2 hB2 hb2 hR hO hB1
  generalize (w2.setCell ⟨M, 0, none⟩ (.int .u8 (t : Int))).setCell ⟨M, 1, none⟩ (.int .i64 (e : Int)) = w3 at *
  go_upto_region 4 with (go_at_call 14; refine (HLE.out _ hB3).mono ?_; rintro e' w4 ⟨rfl, hb4⟩; have R4 := R3.below R3.lt hb4; have c2 := R4.cell 2; have f2 := R4.frozen 2)
  have R5 : Row (w4.setCell ⟨M, 2, none⟩ (.int .u64 (L : Int))) M 51 (tldRow t e L (fun _ => 0) 0 0 0) := R4.set 2 (.int .u64 (L : Int))
  have hB5 := (hB3.trans (hb4.mono hB3.size)).setCell (p := ⟨M, 2, none⟩) hMW (.int .u64 (L : Int))
  have hO5 := (hO3.below hO3.lt hb4).other (i := 2) (v := .int .u64 (L : Int)) hMne
  clear c2 f2 R4 R3 hB3 hO3 hb4
  generalize w4.setCell ⟨M, 2, none⟩ (.int .u64 (L : Int)) = w5 at *
  go_wp2_with fail
  go_loopw [15] (fun i wr => ∃ (k : Nat) (f : Nat → Nat), k ≤ 4 ∧ i = .int .i64 (k : Int) ∧ Row wr M 51 (tldRow t e L f 0 0 0) ∧ (∀ j, j < k → f j = p.st.h j) ∧ Row wr W.heap.size 51 (tldRow 0 0 0 (fun _ => 0) 0 0 0) ∧ Below W.heap.size W wr) (fun i _ => 4 - (intOf i).toNat)
  case atStart => exact ⟨0, fun _ => 0, by omega, rfl, R5, fun j hj => absurd hj (Nat.not_lt_zero _), hO5, hB5⟩
  case round =>
    obtain ⟨k, f, hk, rfl, R, hf, hO, hB⟩ := hrel
    clear R5 hB5 hO5
    have HF := Lib.hid hf
    clear hf
    by_cases hk4 : k < 4
    · have ck := (R.cell (3 + k)).trans (told_get t e L f 0 0 0 k hk4)
      have fk := R.frozen (3 + k)
      have HH := Lib.hid (HHA.out wr hB k hk4)
      have hRs := R.set (3 + k) (.int .u64 (p.st.h k : Int))
      rw [told_set _ _ _ _ _ _ _ _ _ hk4] at hRs
      have HRS := Lib.hid hRs
      have HR := Lib.hid R
      have HO := Lib.hid hO
      have HB := Lib.hid hB
      clear hRs R hO hB
      obtain ⟨v, hv⟩ : ∃ v, p.st.h k = v := ⟨_, rfl⟩
      rw [hv] at HH HRS
      have HV := Lib.hid hv
      clear hv
      go_wp2_with (go_at_call 22; refine HH.out.mono ?_; rintro e' W' ⟨rfl, rfl⟩)
      go_roundw
      case rel =>
        refine ⟨k + 1, setH f k v, by omega, by go_num, HRS.out, fun j hj => ?_, HO.out.other hMne, HB.out.setCell (p := ⟨M, 3 + k, none⟩) hMW _⟩
        unfold setH
        by_cases hjk : j = k
        · rw [if_pos hjk, hjk]; exact HV.out.symm
        · rw [if_neg hjk]; exact HF.out j (by omega)
      case measure => simp [intOf]; omega
    · have hke : k = 4 := by omega
      subst hke
      have hff : (tldRow t e L f 0 0 0) = (tldRow t e L p.st.h 0 0 0) := by
        have h0 := HF.out 0 (by omega)
        have h1 := HF.out 1 (by omega)
        have h2 := HF.out 2 (by omega)
        have h3 := HF.out 3 (by omega)
        unfold tldRow
        rw [h0, h1, h2, h3]
      rw [hff] at R
      clear hff HF
      go_upto_region 10 with (go_at_call 33; refine (HTR.out _ hB).mono ?_; rintro e' w6 ⟨rfl, hb6⟩; have R6 := R.below R.lt hb6; have c7 := R6.cell 7; have f7 := R6.frozen 7; have c8 := (R6.set 7 (.int .i64 (ns : Int))).cell 8; have f8 := (R6.set 7 (.int .i64 (ns : Int))).frozen 8)
      have R7 : Row ((w6.setCell ⟨M, 7, none⟩ (.int .i64 (ns : Int))).setCell ⟨M, 8, none⟩ (.int .i64 (ew : Int))) M 51 (tldRow t e L p.st.h ns ew 0) := (R6.set 7 (.int .i64 (ns : Int))).set 8 (.int .i64 (ew : Int))
      have hB7 := ((hB.trans (hb6.mono hB.size)).setCell (p := ⟨M, 7, none⟩) hMW (.int .i64 (ns : Int))).setCell (p := ⟨M, 8, none⟩) hMW (.int .i64 (ew : Int))
      have hO7 := ((hO.below hO.lt hb6).other (i := 7) (v := .int .i64 (ns : Int)) hMne).other (i := 8) (v := .int .i64 (ew : Int)) hMne
      clear c7 f7 c8 f8 R6 R hB hO hb6
      generalize (w6.setCell ⟨M, 7, none⟩ (.int .i64 (ns : Int))).setCell ⟨M, 8, none⟩ (.int .i64 (ew : Int)) = w7 at *
      go_upto_region 11 with (go_at_call 20; refine (HCA.out _ hB7).mono ?_; rintro e' w8 ⟨v, rfl, how, hb8⟩; obtain ⟨av, cv, rfl, _, _, _, _, hzv⟩ := how.byt (by have := HCL.out; omega) (fun j => by have := H52.out j; omega); rw [HCL.out]; clear how hzv; have R8 := R7.below R7.lt hb8; have c9 := R8.cell 9; have f9 := R8.frozen 9)
      have R9 : Row (w8.setCell ⟨M, 9, none⟩ (.int .i64 (mn : Int))) M 51 (tldRow t e L p.st.h ns ew mn) := R8.set 9 (.int .i64 (mn : Int))
      have hB9 := (hB7.trans (hb8.mono hB7.size)).setCell (p := ⟨M, 9, none⟩) hMW (.int .i64 (mn : Int))
      have hO9 := (hO7.below hO7.lt hb8).other (i := 9) (v := .int .i64 (mn : Int)) hMne
      clear c9 f9 R8 R7 hB7 hO7 hb8
      generalize w8.setCell ⟨M, 9, none⟩ (.int .i64 (mn : Int)) = w9 at *
      have d0 := R9.cell 0
      have d1 := R9.cell 1
      have d2 := R9.cell 2
      have d3 := R9.cell 3
      have d4 := R9.cell 4
      have d5 := R9.cell 5
      have d6 := R9.cell 6
      have d7 := R9.cell 7
      have d8 := R9.cell 8
      have d9 := R9.cell 9
      simp only [List.getElem?_toArray, List.getElem?_cons_zero, List.getElem?_cons_succ] at d0 d1 d2 d3 d4 d5 d6 d7 d8 d9
      have o0 := hO9.cell 0
      have o1 := hO9.cell 1
      have o2 := hO9.cell 2
      have o3 := hO9.cell 3
      have o4 := hO9.cell 4
      have o5 := hO9.cell 5
      have o6 := hO9.cell 6
      have o7 := hO9.cell 7
      have o8 := hO9.cell 8
      have o9 := hO9.cell 9
      simp only [List.getElem?_toArray, List.getElem?_cons_zero, List.getElem?_cons_succ] at o0 o1 o2 o3 o4 o5 o6 o7 o8 o9
      have HFR := Lib.hid hO9.frozen
      have g0 := hO9.frozen 0
      have g1 := hO9.frozen 1
      have g2 := hO9.frozen 2
      have g3 := hO9.frozen 3
      have g4 := hO9.frozen 4
      have g5 := hO9.frozen 5
      have g6 := hO9.frozen 6
      have g7 := hO9.frozen 7
      have g8 := hO9.frozen 8
      have g9 := hO9.frozen 9
      have hn0 : W.heap.size ≤ W.heap.size := Nat.le_refl _
      go_wp2_with fail
      refine bodyPost_ret (v := .agg (tldRow t e L p.st.h ns ew mn)) (by simp [results, Tryd.results23, go_sem, o0, o1, o2, o3, o4, o5, o6, o7, o8, o9]) rfl ⟨by rw [HX.out], ?_⟩
      exact (((((((((hB9.setCell (p := ⟨W.heap.size, 0, none⟩) hn0 _).setCell (p := ⟨W.heap.size, 1, none⟩) hn0 _).setCell (p := ⟨W.heap.size, 2, none⟩) hn0 _).setCell (p := ⟨W.heap.size, 3, none⟩) hn0 _).setCell (p := ⟨W.heap.size, 4, none⟩) hn0 _).setCell (p := ⟨W.heap.size, 5, none⟩) hn0 _).setCell (p := ⟨W.heap.size, 6, none⟩) hn0 _).setCell (p := ⟨W.heap.size, 7, none⟩) hn0 _).setCell (p := ⟨W.heap.size, 8, none⟩) hn0 _).setCell (p := ⟨W.heap.size, 9, none⟩) hn0 _
end Go.Proofs.YtginbellakkliaaDoor
