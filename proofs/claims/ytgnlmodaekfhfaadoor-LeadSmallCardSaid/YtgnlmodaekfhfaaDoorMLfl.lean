/- LfL, LfM in one text. -/
import Derived.Test.YtgnlmodaekfhfaaDoorMLfe
import Derived.Test.YtgnlmodaekfhfaaDoorMLdx
import Derived.Test.YtgnlmodaekfhfaaDoorMLfj
import Derived.Test.YtgnlmodaekfhfaaDoorLdU
import Derived.Test.YtgnlmodaekfhfaaDoorMRelt

/- finesselaw14.agrees over this seat's program. -/
namespace Go.Proofs.YtgnlmodaekfhfaaDoor
open Go.RowKit Go.Shelf Go.Sort

set_option maxRecDepth 100000 in
theorem eq_stateR (s t : St) (w : World) : Sem.run Tryd.prog (Op.equalIn 10000 80 (.agg s.cells) (.agg t.cells)) w = .ok (s.same t) w := by
  rw [run_equalIn_struct (P := Tryd.prog) w 9999 _ _ _ (by kernel_rfl) (by kernel_rfl)]
  have hU := Tryd.underlying80
  simp only [Program.fieldsOf, hU]
  rw [eqFields_step 9999 _ _ _ _ w (by decide) (fun w => by kernel_rfl) (fun w => by kernel_rfl) (fun w => eq_deal14 9997 s.h t.h w)]
  rw [eqFields_step 9999 _ _ _ _ w (by decide) (fun w => by kernel_rfl) (fun w => by kernel_rfl) (fun w => eq_deal14 9997 s.pn t.pn w)]
  rw [eqFields_step 9999 _ _ _ _ w (by decide) (fun w => by kernel_rfl) (fun w => by kernel_rfl) (fun w => (run_equalIn_int (P := Tryd.prog) w 9998 5 .u8 .u8 (s.tm : Int) (t.tm : Int) Tryd.underlying5).trans (by rw [beq_cast]))]
  rw [eqFields_step 9999 _ _ _ _ w (by decide) (fun w => by kernel_rfl) (fun w => by kernel_rfl) (fun w => (run_equalIn_int (P := Tryd.prog) w 9998 5 .u8 .u8 (s.dc : Int) (t.dc : Int) Tryd.underlying5).trans (by rw [beq_cast]))]
  rw [eqFields_step 9999 _ _ _ _ w (by decide) (fun w => by kernel_rfl) (fun w => by kernel_rfl) (fun w => (run_equalIn_int (P := Tryd.prog) w 9998 5 .u8 .u8 (s.ld : Int) (t.ld : Int) Tryd.underlying5).trans (by rw [beq_cast]))]
  rw [eqFields_step 9999 _ _ _ _ w (by decide) (fun w => by kernel_rfl) (fun w => by kernel_rfl) (fun w => (run_equalIn_int (P := Tryd.prog) w 9998 5 .u8 .u8 (s.ct : Int) (t.ct : Int) Tryd.underlying5).trans (by rw [beq_cast]))]
  rw [eqFields_step 9999 _ _ _ _ w (by decide) (fun w => by kernel_rfl) (fun w => by kernel_rfl) (fun w => eq_four14 9997 s.cs t.cs w)]
  rw [eqFields_step 9999 _ _ _ _ w (by decide) (fun w => by kernel_rfl) (fun w => by kernel_rfl) (fun w => (run_equalIn_int (P := Tryd.prog) w 9998 5 .u8 .u8 (s.seat : Int) (t.seat : Int) Tryd.underlying5).trans (by rw [beq_cast]))]
  rw [eqFields_step 9999 _ _ _ _ w (by decide) (fun w => by kernel_rfl) (fun w => by kernel_rfl) (fun w => (run_equalIn_int (P := Tryd.prog) w 9998 5 .u8 .u8 (s.card : Int) (t.card : Int) Tryd.underlying5).trans (by rw [beq_cast]))]
  rw [eqFields_step 9999 _ _ _ _ w (by decide) (fun w => by kernel_rfl) (fun w => by kernel_rfl) (fun w => run_equalIn_bool' (P := Tryd.prog) w 9998 4 s.pend t.pend Tryd.underlying4)]
  rw [eqFields_step 9999 _ _ _ _ w (by decide) (fun w => by kernel_rfl) (fun w => by kernel_rfl) (fun w => run_equalIn_bool' (P := Tryd.prog) w 9998 4 s.opn t.opn Tryd.underlying4)]
  rw [eqFields_step 9999 _ _ _ _ w (by decide) (fun w => by kernel_rfl) (fun w => by kernel_rfl) (fun w => (run_equalIn_int (P := Tryd.prog) w 9998 5 .u8 .u8 (s.must : Int) (t.must : Int) Tryd.underlying5).trans (by rw [beq_cast]))]
  rw [eqFields_step 9999 _ _ _ _ w (by decide) (fun w => by kernel_rfl) (fun w => by kernel_rfl) (fun w => (run_equalIn_int (P := Tryd.prog) w 9998 5 .u8 .u8 (s.nt : Int) (t.nt : Int) Tryd.underlying5).trans (by rw [beq_cast]))]
  rw [eqFields_step 9999 _ _ _ _ w (by decide) (fun w => by kernel_rfl) (fun w => by kernel_rfl) (fun w => eq_two14 9997 s.w t.w w)]
  have last : ∀ w, Sem.run Tryd.prog (Op.eqFields 9999 s.cells t.cells []) w = .ok true w := fun w => by simp [Op.eqFields]
  rw [last]
  unfold St.same
  cases (s.h 0 == t.h 0 && s.h 1 == t.h 1 && s.h 2 == t.h 2 && s.h 3 == t.h 3)
  · rfl
  cases (s.pn 0 == t.pn 0 && s.pn 1 == t.pn 1 && s.pn 2 == t.pn 2 && s.pn 3 == t.pn 3)
  · rfl
  cases (s.tm == t.tm)
  · rfl
  cases (s.dc == t.dc)
  · rfl
  cases (s.ld == t.ld)
  · rfl
  cases (s.ct == t.ct)
  · rfl
  cases (s.cs 0 == t.cs 0 && s.cs 1 == t.cs 1 && s.cs 2 == t.cs 2 && s.cs 3 == t.cs 3)
  · rfl
  cases (s.seat == t.seat)
  · rfl
  cases (s.card == t.card)
  · rfl
  cases (s.pend == t.pend)
  · rfl
  cases (s.opn == t.opn)
  · rfl
  cases (s.must == t.must)
  · rfl
  cases (s.nt == t.nt)
  · rfl
  cases (s.w 0 == t.w 0 && s.w 1 == t.w 1) <;> rfl
attribute [-go_sem] run_equalIn_agg run_eql_struct
theorem quiet_row_gR {P : Program} {ops : Array Oper} {C : World → Prop} {Q : Act → Prop} {a : Act} {o : Oper} {rest : List Oper} (hw : Region.wanted o (yielded ops a.tmps) = true) (ty : TypeId) (x : Operand) (ho : o.op = .load ty x) (g : Nat) (hx : a.eval x = .pointer (some ⟨g, 0, none⟩)) {t : TypeId} {cs : Array Value} {d : TypeDesc}
    (hg : ∀ w', C w' → Row w' g t cs) (hu : P.underlying ty = some d) (hd : (match d with | .struct _ | .array _ _ => true | _ => false) = true) (hi : (P.info? ty).map (·.size) = some cs.size) (h : wpQuiet P ops C Q rest (a.put o.dst (.agg cs))) : wpQuiet P ops C Q (o :: rest) a := by
  refine BigFrame.wpQuiet_want hw fun K hK => ⟨.agg cs, fun w hw => ?_, hK _ h⟩
  unfold Oper.quietAt
  rw [exec_load_row ty x ho g hx (hg w hw) hu hd hi]
  exact ⟨rfl, rfl⟩
theorem eqlR_self (s : St) {SA : Array Value} (h : SA = s.cells) (w : World) : Sem.run Tryd.prog (binOp .eql 80 (.agg SA) (.agg SA)) w = .ok (.bool true) w := by
  have hs : s.same s = true := by unfold St.same; simp
  rw [run_eql_struct, h, eq_stateR, hs, Result.andThen_ok]
set_option maxHeartbeats 2000000 in
set_option maxRecDepth 10000 in
theorem law_agrees {d : Nat → Nat} {n : Nat} {s : St} {w : World} {B : Nat} (hd : Deal4 d n) (hi : SInv d n s) (hA : TblAt w B s) (hT : Tab w) {SA : Array Value} (hSA : SA = s.cells) :
    Calls Tryd.prog 37 #[.pointer (some ⟨B, 0, none⟩), .agg SA] w fun e w' => e = .returned (.bool true) ∧ Below w.heap.size w w' := by
  have HZ : Hid ((Tryd.prog.info? 80).map (·.size) = some SA.size) := Lib.hid (by rw [hSA]; exact size_rst)
  have h1 := fun (W : World) (hb : Below w.heap.size w W) => tb_Turn hd hi (hA.below hA.lt hb)
  have h2 := fun (W : World) => lf_Turn hi.ok hSA W
  have H3 := Lib.hid (fun (W : World) (hb : Below w.heap.size w W) => tb_State hd hi (hA.below hA.lt hb) hSA)
  have h4 := fun (W : World) (hb : Below w.heap.size w W) => tb_Legal hd hi (hA.below hA.lt hb) (hT.below hT.pos hb)
  have h5 := fun (W : World) => lf_Legal hi hSA W
  have h6 := fun (W : World) (hb : Below w.heap.size w W) => tb_Choices hd hi (hA.below hA.lt hb)
  have h7 := fun (W : World) => lf_Choices hi hSA W
  generalize s.turnV.1 = x1 at h1 h2
  generalize s.turnV.2 = x2 at h1 h2
  generalize s.legal = x3 at h4 h5
  generalize s.choicesV = x4 at h6 h7
  have H1 := Lib.hid h1
  have H2 := Lib.hid h2
  have H4 := Lib.hid h4
  have H5 := Lib.hid h5
  have H6 := Lib.hid h6
  have H7 := Lib.hid h7
  have heq := eqlR_self s hSA
  clear h1 h2 h4 h5 h6 h7 hA hT hi hd hSA
  have hB := (Below.refl w.heap.size w).alloc (Nat.le_refl _) (.cells SA 80)
  have hR : Row (w.alloc (.cells SA 80)) w.heap.size 80 SA := Row.new _ _ _
  go_enter Tryd.func37, Tryd.ntmps37
  go_upto_region 1 with fail
  generalize w.alloc (.cells SA 80) = w1 at *
  obtain ⟨b0, hb0⟩ : ∃ b, w.heap.size = b := ⟨_, rfl⟩
  rw [hb0] at hR
  rw [hb0]
  clear hb0
  go_wp2_with fail
  refine (H1.out w1 hB).mono ?_
  rintro e w2 ⟨rfl, hb2⟩
  have hR2 := hR.below hR.lt hb2
  have hB2 := hB.trans (hb2.mono hB.size)
  clear hb2 hR hB
  go_wp2_with (refine wpList_load_row rfl 80 (.tmp 3) rfl b0 rfl 80 SA (0, 0) _ hR2 Tryd.underlying80 rfl HZ.out ?_)
  refine (H2.out w2).mono ?_
  rintro e w3 ⟨rfl, hb3⟩
  have hR3 := hR2.below hR2.lt hb3
  have hB3 := hB2.trans (hb3.mono hB2.size)
  clear hb3 hR2 hB2
  have HR3 := Lib.hid hR3
  have HB3 := Lib.hid hB3
  clear hR3 hB3
  go_upto_region 3 with fail
  refine wp_region_quiet_below (by kernel_rfl) (by kernel_rfl) ?_
  repeat (first
    | go_big_quiet_step (fail)
    | quiet_step (with_reducible exact Calls.regrown_of (H3.out _ (HB3.out.trans ((below_regrown _ _ _).mono HB3.out.size))))
    | quiet_step (with_reducible exact Calls.regrown_of (H4.out _ (HB3.out.trans ((below_regrown _ _ _).mono HB3.out.size))))
    | quiet_step (with_reducible exact Calls.regrown_of (H5.out _))
    | quiet_step (with_reducible exact Calls.regrown_of (H6.out _ (HB3.out.trans ((below_regrown _ _ _).mono HB3.out.size))))
    | quiet_step (with_reducible exact Calls.regrown_of (H7.out _))
    | (refine quiet_row_gR (by rfl) 80 (.tmp 3) rfl b0 rfl (fun w' hw' => by obtain ⟨p, rfl⟩ := hw'; exact HR3.out.below HR3.out.lt (below_regrown _ _ _)) Tryd.underlying80 rfl HZ.out ?_))
  refine wpQuiet_nil ?_
  rintro _ ⟨q, rfl⟩
  go_wp2_with fail
  go_ret
  exact ⟨rfl, HB3.out.trans ((below_regrown w3 q.d q.os).mono HB3.out.size)⟩
end Go.Proofs.YtgnlmodaekfhfaaDoor

/- finesselaw14.step over this seat's program. -/
namespace Go.Proofs.YtgnlmodaekfhfaaDoor
open Go.RowKit Go.Shelf Go.Sort

attribute [-go_sem] run_equalIn_agg run_eql_struct
theorem setRow_other {w : World} {B b : Nat} {t : TypeId} {cs : Array Value} (h : Row w B t cs) (hne : B ≠ b) (v : Array Value) : Row (w.setRow b v) B t cs := h.same (by
  show (w.heap.modify b _)[B]? = _
  rw [Array.getElem?_modify, if_neg (Ne.symm hne)])
theorem Kept.go {S : Nat → Prop} {w0 w w' : World} {n : Nat} (hk : Kept S w0 w) (hb : Below n w w') (hn : w0.heap.size ≤ n) : Kept S w0 w' :=
  ⟨hb.os.trans hk.os, hb.tape.trans hk.tape, hb.output.trans hk.output, Nat.le_trans hk.size hb.size, fun k hs hl => (hb.block k (Nat.lt_of_lt_of_le hl hn)).trans (hk.block k hs hl)⟩
theorem tab_ne {w : World} {B : Nat} {s : St} (hT : Tab w) (hA : TblAt w B s) : 0 ≠ B := by
  intro e
  have h1 := hT 0 (by decide)
  have h2 := hA.cell 0
  rw [← e] at h2
  rw [h2] at h1
  exact absurd h1 (by simp)
/-- the state after an act of LeadTells -/
def stepS (s : St) (a : AcT) : St :=
  if a.kind % 8 = 4 then (s.leadV a.seat (nthV (s.h (a.seat % 4)) a.card)).1
  else if a.kind % 8 = 5 then (s.leadV a.seat a.card).1
  else if a.kind % 8 = 6 then (s.chooseV a.card).1
  else if a.kind % 8 = 7 then (s.demandV a.card (a.seat % 2 == 0)).1
  else (s.playV (if a.kind % 8 < 3 then nthV s.legal a.card else a.card)).1
/-- while the result is put down and the tables are compared -/
def StS (w : World) (b B : Nat) (SB : Array Value) (t : St) (vs _us : List Value) (W : World) : Prop := Kept (fun k => k ≠ B) w W ∧ Row W b 80 SB ∧ TblAt W B t ∧ match vs with
  | [] => Row W (b + 1 + 1) 80 zst
  | [_] => Row W (b + 1 + 1) 80 SB
  | _ => False
theorem StS.below {w : World} {b B : Nat} {SB : Array Value} {t : St} {vs us : List Value} {W W' : World} (h : StS w b B SB t vs us W) (hb : Below W.heap.size W W') : StS w b B SB t vs us W' := by
  obtain ⟨h1, h2, h3, h4⟩ := h
  refine ⟨h1.trans (Kept.of_below hb), h2.below h2.lt hb, h3.below h3.lt hb, ?_⟩
  match vs, h4 with
  | [], h4 => exact h4.below h4.lt hb
  | [x], h4 => exact h4.below h4.lt hb
theorem Tab.keptNe {w w' : World} {B : Nat} (hT : Tab w) (hk : Kept (fun k => k ≠ B) w w') (hne : 0 ≠ B) : Tab w' := fun j hj => (hk.cell (p := ⟨0, j, none⟩) hne hT.pos).trans (hT j hj)
set_option maxHeartbeats 4000000 in
set_option maxRecDepth 10000 in
theorem law_step {d : Nat → Nat} {n : Nat} {s : St} {w : World} {B : Nat} {a : AcT} (hd : Deal4 d n) (hi : SInv d n s) (ha : a.ok) (hA : TblAt w B s) (hT : Tab w) {SA : Array Value} (hSA : SA = s.cells) :
    Calls Tryd.prog 38 #[.pointer (some ⟨B, 0, none⟩), .agg SA, .agg a.cells] w fun e w' =>
      ∃ t, t = stepS s a ∧ SInv d n t ∧ ∃ SB, SB = t.cells ∧ e = .returned (.tuple #[.agg SB, .bool true]) ∧ TblAt w' B t ∧ Kept (fun k => k ≠ B) w w' := by
  have HZ : Hid ((Tryd.prog.info? 80).map (·.size) = some SA.size ∧ SA.size = 24 ∧ SA.all (·.oneCell') = true) := Lib.hid (by rw [hSA]; exact ⟨size_rst, rfl, one_cells _⟩)
  have HD := Lib.hid hd
  have HI := Lib.hid hi
  have HT := Lib.hid (fun (W : World) (hk : Kept (fun k => k ≠ B) w W) => hT.keptNe hk (tab_ne hT hA))
  have HBB := Lib.hid hA.lt
  have HSA := Lib.hid hSA
  have hS0 : Row (((w.alloc (.cells SA 80)).alloc (.cells a.cells 41)).alloc (.cells zst 80)) w.heap.size 80 SA := ((Row.new w _ _).alloc _).alloc _
  have hA0 : Row (((w.alloc (.cells SA 80)).alloc (.cells a.cells 41)).alloc (.cells zst 80)) (w.heap.size + 1) 41 a.cells := by
    have := (Row.new (w.alloc (.cells SA 80)) 41 a.cells).alloc (.cells zst 80)
    rwa [World.size_alloc] at this
  have hR0 : Row (((w.alloc (.cells SA 80)).alloc (.cells a.cells 41)).alloc (.cells zst 80)) (w.heap.size + 1 + 1) 80 zst := by
    have := Row.new ((w.alloc (.cells SA 80)).alloc (.cells a.cells 41)) 80 zst
    rwa [World.size_alloc, World.size_alloc] at this
  have hK0 : Kept (fun k => k ≠ B) w (((w.alloc (.cells SA 80)).alloc (.cells a.cells 41)).alloc (.cells zst 80)) := (((Kept.refl _ w).alloc _).alloc _).alloc _
  have hB0 : TblAt (((w.alloc (.cells SA 80)).alloc (.cells a.cells 41)).alloc (.cells zst 80)) B s := ((hA.alloc _).alloc _).alloc _
  have hkd := ha.kind
  have hst := ha.seat
  have hcd := ha.card
  clear hd hi hA hT ha hSA
  go_enter Tryd.func38, Tryd.ntmps38
  go_upto_region 1 with fail
  change Code.wp _ _ _ _ (((w.alloc (.cells SA 80)).alloc (.cells a.cells 41)).alloc (.cells zst 80))
  generalize ((w.alloc (.cells SA 80)).alloc (.cells a.cells 41)).alloc (.cells zst 80) = w1 at *
  obtain ⟨b, hb⟩ : ∃ b, w.heap.size = b := ⟨_, rfl⟩
  rw [hb] at hS0 hA0 hR0 HBB ⊢
  have HW : Hid (w.heap.size ≤ b) := Lib.hid (Nat.le_of_eq hb)
  clear hb
  have HS1 := Lib.hid hS0
  have HA1 := Lib.hid hA0
  have HR1 := Lib.hid hR0
  have HK1 := Lib.hid hK0
  have HB1 := Lib.hid hB0
  have a0 := hA0.cell 0
  have a1 := hA0.cell 1
  have a2 := hA0.cell 2
  simp only [List.getElem?_toArray, List.getElem?_cons_zero, List.getElem?_cons_succ] at a0 a1 a2
  clear hS0 hA0 hR0 hK0 hB0
  by_cases h4 : a.kind % 8 = 4
  · obtain ⟨p, hp⟩ : ∃ p, a.seat % 4 = p := ⟨_, rfl⟩
    have hp4 : p < 4 := by omega
    have t0 : ((a.kind : Int)).tmod 8 = ((a.kind % 8 : Nat) : Int) := by rw [Int.tmod_eq_emod_of_nonneg (by omega)]; omega
    rw [h4] at t0
    have t1 : ((a.seat : Int)).tmod 4 = (p : Int) := by rw [Int.tmod_eq_emod_of_nonneg (by omega)]; omega
    have t2 : IntKind.u8.wrap (p : Int) = (p : Int) := by rw [IntKind.wrap_u8]; omega
    have hpI : (p : Int) < 4 := by omega
    have hts : stepS s a = (s.leadV a.seat (nthV (s.h p) a.card)).1 := by unfold stepS; rw [if_pos h4, hp]
    have HN := Lib.hid (fun W => law_nth (s.h p) a.card (w64_52 (HI.out.ok.h p hp4)) hcd W)
    have hcl := nthV_lt (s.h p) a.card
    have ch : w1.cell? ⟨b, p, none⟩ = some (.int .u64 (s.h p : Int)) := by rw [HS1.out.cell, HSA.out, st_hget s p hp4]
    generalize nthV (s.h p) a.card = c at *
    generalize s.h p = m at *
    obtain ⟨t, er, he⟩ : ∃ t er, s.leadV a.seat c = (t, er) := ⟨_, _, rfl⟩
    rw [he] at hts
    have HTS : Hid (t = stepS s a) := Lib.hid hts.symm
    clear hts
    clear hp h4
    go_wp2_with fail
    refine (HN.out w1).mono ?_
    rintro e w9 ⟨rfl, hb9⟩
    clear ch a0 a1 a2
    have HK9 := Lib.hid (HK1.out.trans (Kept.of_below hb9))
    have HS9 := Lib.hid (HS1.out.below HS1.out.lt hb9)
    have HR9 := Lib.hid (HR1.out.below HR1.out.lt hb9)
    have hA9 := HA1.out.below HA1.out.lt hb9
    have HA9 := Lib.hid hA9
    have HB9 := Lib.hid (HB1.out.below HB1.out.lt hb9)
    have a0' := hA9.cell 0
    have a1' := hA9.cell 1
    have a2' := hA9.cell 2
    simp only [List.getElem?_toArray, List.getElem?_cons_zero, List.getElem?_cons_succ] at a0' a1' a2'
    clear hA9 hb9
    have HP9 := Lib.hid (fun (W : World) (h1 : TblAt W B s) (h2 : Tab W) => tb_Lead HD.out HI.out h1 h2 a.seat c hst)
    have hi10 := HI.out.lead HD.out a.seat c
    simp only [he] at HP9 hi10
    have HI10 := Lib.hid hi10
    clear hi10
    go_wp2_with fail
    refine (HP9.out w9 HB9.out (HT.out _ HK9.out)).mono ?_
    rintro e w10 ⟨rfl, hr10, hk10⟩
    clear a0' a1' a2'
    have HK10 := Lib.hid (HK9.out.trans hk10)
    have hS10 := HS9.out.kept (S := fun k => k ≠ B) (show b ≠ B from Nat.ne_of_gt HBB.out) hk10
    have hR10 := HR9.out.kept (S := fun k => k ≠ B) (show b + 1 + 1 ≠ B by have := HBB.out; omega) hk10
    have hA10 := HA9.out.kept (S := fun k => k ≠ B) (show b + 1 ≠ B by have := HBB.out; omega) hk10
    have HB10 := Lib.hid hr10
    have a0 := hA10.cell 0
    have a1 := hA10.cell 1
    have a2 := hA10.cell 2
    simp only [List.getElem?_toArray, List.getElem?_cons_zero, List.getElem?_cons_succ] at a0 a1 a2
    clear hk10 hr10 hA10
    go_upto_region 15 with fail
    go_wp2_with (refine wpList_load_row rfl 80 (.tmp 4) rfl b rfl 80 SA (0, 0) _ hS10 Tryd.underlying80 rfl HZ.out.1 ?_)
    refine (lf_Lead HI.out HSA.out hst hcl he w10).mono ?_
    rintro e w11 ⟨SB, ⟨hSB, rfl⟩, hb11⟩
    have HSB := Lib.hid hSB
    have HZB : Hid ((Tryd.prog.info? 80).map (·.size) = some SB.size ∧ SB.size = 24 ∧ SB.all (·.oneCell') = true) := Lib.hid (by rw [hSB]; exact ⟨size_rst, rfl, one_cells _⟩)
    clear hSB
    have hS11 := hS10.below hS10.lt hb11
    have HR11 := Lib.hid (hR10.below hR10.lt hb11)
    have HB11 := Lib.hid (HB10.out.below HB10.out.lt hb11)
    have HK11 := Lib.hid (HK10.out.trans (Kept.of_below hb11))
    clear hS10 hR10 hb11 a0 a1 a2
    go_upto_region 22 with (refine wpList_store_row rfl 80 (.tmp 4) (.tmp 62) rfl b SB rfl rfl 80 _ hS11 HZB.out.1 (by rw [HZB.out.2.1, HZ.out.2.1]) HZB.out.2.2 ?_)
    have hb12 : Below b w11 (w11.setRow b SB) := below_setRow (Below.refl b w11) (Nat.le_refl _) SB
    have HS12 : Hid (Row (w11.setRow b SB) b 80 SB) := Lib.hid (setRow_heap _ _ _ _ _ _ hS11)
    have HR12 := Lib.hid (setRow_other HR11.out (show b + 1 + 1 ≠ b by omega) SB)
    have HB12 := Lib.hid (HB11.out.below HBB.out hb12)
    have HK12 := Lib.hid (HK11.out.go hb12 HW.out)
    clear hS11 hb12
    generalize w11.setRow b SB = w12 at *
    have HAG := Lib.hid (fun (W : World) (hb : Below w12.heap.size w12 W) => law_agrees HD.out HI10.out (HB12.out.below HB12.out.lt hb) (HT.out _ (HK12.out.trans (Kept.of_below hb))) HSB.out)
    refine wp_region_reliesT (ChF [.agg SB, .int .i64 (er : Int), .int .i64 (er : Int), .bool true, .bool true, .pointer (some ⟨B, 0, none⟩), .agg SB, .bool true, .bool true, undef, .bool true] [9] [] (StS w b B SB t)) (fun _ => true) (by kernel_rfl) (by kernel_rfl) (by kernel_rfl) (by kernel_rfl) (ChF.start ⟨HK12.out.drew, HS12.out.below HS12.out.lt (Below.refl _ _).drew, HB12.out.below HB12.out.lt (Below.refl _ _).drew, HR12.out.below HR12.out.lt (Below.refl _ _).drew⟩) ?obls ?fini
    case obls =>
      refine ⟨⟨?_, ?_⟩, ⟨?_, ?_⟩, ⟨?_, ?_⟩, ⟨?_, ?_⟩, ⟨?_, ?_⟩, ⟨?_, ?_⟩, ⟨?_, ?_⟩, ⟨?_, ?_⟩, ⟨?_, ?_⟩, ⟨?_, ?_⟩, ⟨?_, ?_⟩, trivial⟩
      · rfl
      · rintro ρ f W ⟨vs, us, hX⟩ hfi hw hcl hf
        have f4 : ρ (.tmp 4) = .pointer (some ⟨b, 0, none⟩) := hf.1 4 (by simp [Op.operands])
        exact ok_value (v := .agg SB) (w' := W) (exec_load_row 80 (.tmp 4) rfl b f4 hX.st.2.1 Tryd.underlying80 rfl HZB.out.1) (hX.pure 0 _ (by decide) (by decide) rfl hX.st)
      · rfl
      · rintro ρ f W ⟨vs, us, hX⟩ hfi hw hcl hf
        have f8 : ρ (.tmp 8) = .int .i64 (er : Int) := hf.1 8 (by simp [Op.operands])
        exact ok_value (v := .int .i64 (er : Int)) (w' := W) (by simp [execOp, f8]) (hX.pure 1 _ (by decide) (by decide) rfl hX.st)
      · rfl
      · rintro ρ f W ⟨vs, us, hX⟩ hfi hw hcl hf
        have f9 : ρ (.tmp 9) = .int .i64 (er : Int) := hf.1 9 (by simp [Op.operands])
        exact ok_value (v := .int .i64 (er : Int)) (w' := W) (by simp [execOp, f9]) (hX.pure 2 _ (by decide) (by decide) rfl hX.st)
      · rfl
      · rintro ρ f W ⟨vs, us, hX⟩ hfi hw hcl hf
        have f99 : ρ (.tmp 99) = .int .i64 (er : Int) := hX.val 1 _ _ (by decide) (by decide) (hf.1 99 (by simp [Op.operands])) rfl
        have f100 : ρ (.tmp 100) = .int .i64 (er : Int) := hX.val 2 _ _ (by decide) (by decide) (hf.1 100 (by simp [Op.operands])) rfl
        exact ok_value (v := .bool true) (w' := W) (by simp [execOp, f99, f100, go_sem]) (hX.pure 3 _ (by decide) (by decide) rfl hX.st)
      · rfl
      · rintro ρ f W ⟨vs, us, hX⟩ hfi hw hcl hf
        have f101 : ρ (.tmp 101) = .bool true := hX.val 3 _ _ (by decide) (by decide) (hf.1 101 (by simp [Op.operands])) rfl
        exact ok_value (v := .bool true) (w' := W) (by simp [execOp, f101]) (hX.pure 4 _ (by decide) (by decide) rfl hX.st)
      · rintro f W v ⟨vs, us, hX⟩ hv
        exact hX.val 4 _ _ (by decide) (by decide) hv rfl
      · rintro ρ f W ⟨vs, us, hX⟩ hfi hw hcl hf
        have f0 : ρ (.tmp 0) = .pointer (some ⟨B, 0, none⟩) := hf.1 0 (by simp [Op.operands])
        exact ok_value (v := .pointer (some ⟨B, 0, none⟩)) (w' := W) (by simp [execOp, f0]) (hX.pure 5 _ (by decide) (by decide) rfl hX.st)
      · rintro f W v ⟨vs, us, hX⟩ hv
        exact hX.val 4 _ _ (by decide) (by decide) hv rfl
      · rintro ρ f W ⟨vs, us, hX⟩ hfi hw hcl hf
        have f4 : ρ (.tmp 4) = .pointer (some ⟨b, 0, none⟩) := hf.1 4 (by simp [Op.operands])
        exact ok_value (v := .agg SB) (w' := W) (exec_load_row 80 (.tmp 4) rfl b f4 hX.st.2.1 Tryd.underlying80 rfl HZB.out.1) (hX.pure 6 _ (by decide) (by decide) rfl hX.st)
      · rintro f W v ⟨vs, us, hX⟩ hv
        exact hX.val 4 _ _ (by decide) (by decide) hv rfl
      · rintro ρ f W ⟨vs, us, hX⟩ hfi hw hcl hf
        have f103 : ρ (.tmp 103) = .pointer (some ⟨B, 0, none⟩) := hX.val 5 _ _ (by decide) (by decide) (hf.1 103 (by simp [Op.operands, Call.operands])) rfl
        have f104 : ρ (.tmp 104) = .agg SB := hX.val 6 _ _ (by decide) (by decide) (hf.1 104 (by simp [Op.operands, Call.operands])) rfl
        refine ok_call (f := 37) (args := #[.pointer (some ⟨B, 0, none⟩), .agg SB]) (by simp [execOp, f103, f104, hf.2.2.2, go_sem]) ?_
        refine (law_agrees HD.out HI10.out hX.st.2.2.1 (HT.out _ hX.st.1) HSB.out).mono ?_
        rintro e w5 ⟨rfl, hb5⟩
        exact ⟨_, rfl, hX.pure 7 _ (by decide) (by decide) rfl (StS.below hX.st hb5)⟩
      · rfl
      · rintro ρ f W ⟨vs, us, hX⟩ hfi hw hcl hf
        have f102 : ρ (.tmp 102) = .bool true := hX.val 4 _ _ (by decide) (by decide) (hf.1 102 (by simp [Op.operands])) rfl
        have f105 : ρ (.tmp 105) = .bool true := hX.val 7 _ _ (by decide) (by decide) (hf.1 105 (by simp [Op.operands])) rfl
        exact ok_value (v := .bool true) (w' := W) (by simp [execOp, f102, f105, hf.2.1, go_sem]) (hX.pure 8 _ (by decide) (by decide) rfl hX.st)
      · rfl
      · rintro ρ f W ⟨vs, us, hX⟩ hfi hw hcl hf
        have f6 : ρ (.tmp 6) = .pointer (some ⟨b + 1 + 1, 0, none⟩) := hf.1 6 (by simp [Op.operands])
        have f98 : ρ (.tmp 98) = .agg SB := hX.val 0 _ _ (by decide) (by decide) (hf.1 98 (by simp [Op.operands])) rfl
        have hl := hX.le1 0 9 rfl hfi
        obtain rfl := list0 hl
        obtain ⟨hk1, hs1, ht1, hr1⟩ := hX.st
        have hb5 := below_setRow (Below.refl (b + 1 + 1) W) (Nat.le_refl _) SB
        exact ok_skip (exec_store_row 80 (.tmp 6) (.tmp 98) rfl (b + 1 + 1) SB f6 f98 hr1 HZB.out.1 (by rw [HZB.out.2.1]; rfl) HZB.out.2.2) (hX.step1 9 _ rfl (by decide) (by decide) ⟨hk1.go hb5 (by have := HW.out; omega), hs1.below (by omega) hb5, ht1.below (by have := HBB.out; omega) hb5, setRow_heap _ _ _ _ _ _ hr1⟩)
      · rfl
      · rintro ρ f W ⟨vs, us, hX⟩ hfi hw hcl hf
        have f106 : ρ (.tmp 106) = .bool true := hX.val 8 _ _ (by decide) (by decide) (hf.1 106 (by simp [Op.operands])) rfl
        exact ok_value (v := .bool true) (w' := W) (by simp [execOp, f106]) (hX.pure 10 _ (by decide) (by decide) rfl hX.st)
    case fini =>
      rintro us w13 hlen ⟨vs, us', hX⟩
      have hl0 : us.length = 11 := hlen
      match us, hl0 with
      | [y0, y1, y2, y3, y4, y5, y6, y7, y8, y9, y10], _ =>
        have hst := hX.st
        have hvs := list1 hX.l1 (hX.get1 0 9 rfl (v := y9) rfl)
        have hy : y10 = .bool true := hX.val 10 _ _ (by decide) (by decide) rfl rfl
        subst hy
        rw [hvs] at hst
        obtain ⟨hK13, hS13, hB13, hR13⟩ := hst
        have HK13 := Lib.hid hK13
        have HB13 := Lib.hid hB13
        have HR13 := Lib.hid hR13
        clear hX hvs hK13 hB13 hR13 hS13 hlen
        simp only [putAll, List.zip_cons_cons, List.zip_nil_right, List.foldl_cons, List.foldl_nil]
        simp only [Act.put, List.setIfInBounds_toArray, List.set_cons_succ, List.set_cons_zero]
        go_wp2_with fail
        refine bodyPost_ret (v := .tuple #[.agg SB, .bool true]) (results_cellt Tryd.results38 _ _ (b + 1 + 1) _ SB (0, 0) _ rfl HR13.out Tryd.underlying80 rfl HZB.out.1) rfl ?_
        exact ⟨HTS.out ▸ HI10.out, by rw [HSB.out, HTS.out], HTS.out ▸ HB13.out, HK13.out⟩
  by_cases h5 : a.kind % 8 = 5
  · have t0 : ((a.kind : Int)).tmod 8 = ((a.kind % 8 : Nat) : Int) := by rw [Int.tmod_eq_emod_of_nonneg (by omega)]; omega
    rw [h5] at t0
    have hts : stepS s a = (s.leadV a.seat a.card).1 := by unfold stepS; rw [if_neg h4, if_pos h5]
    obtain ⟨t, er, he⟩ : ∃ t er, s.leadV a.seat a.card = (t, er) := ⟨_, _, rfl⟩
    rw [he] at hts
    have HTS : Hid (t = stepS s a) := Lib.hid hts.symm
    clear hts
    clear h4 h5
    have HK9 := HK1
    have HS9 := HS1
    have HR9 := HR1
    have HA9 := HA1
    have HB9 := HB1
    have HP9 := Lib.hid (fun (W : World) (h1 : TblAt W B s) (h2 : Tab W) => tb_Lead HD.out HI.out h1 h2 a.seat a.card hst)
    have hi10 := HI.out.lead HD.out a.seat a.card
    simp only [he] at HP9 hi10
    have HI10 := Lib.hid hi10
    clear hi10
    go_wp2_with fail
    refine (HP9.out w1 HB9.out (HT.out _ HK9.out)).mono ?_
    rintro e w10 ⟨rfl, hr10, hk10⟩
    clear a0 a1 a2
    have HK10 := Lib.hid (HK9.out.trans hk10)
    have hS10 := HS9.out.kept (S := fun k => k ≠ B) (show b ≠ B from Nat.ne_of_gt HBB.out) hk10
    have hR10 := HR9.out.kept (S := fun k => k ≠ B) (show b + 1 + 1 ≠ B by have := HBB.out; omega) hk10
    have hA10 := HA9.out.kept (S := fun k => k ≠ B) (show b + 1 ≠ B by have := HBB.out; omega) hk10
    have HB10 := Lib.hid hr10
    have a0 := hA10.cell 0
    have a1 := hA10.cell 1
    have a2 := hA10.cell 2
    simp only [List.getElem?_toArray, List.getElem?_cons_zero, List.getElem?_cons_succ] at a0 a1 a2
    clear hk10 hr10 hA10
    go_upto_region 15 with fail
    go_wp2_with (refine wpList_load_row rfl 80 (.tmp 4) rfl b rfl 80 SA (0, 0) _ hS10 Tryd.underlying80 rfl HZ.out.1 ?_)
    refine (lf_Lead HI.out HSA.out hst hcd he w10).mono ?_
    rintro e w11 ⟨SB, ⟨hSB, rfl⟩, hb11⟩
    have HSB := Lib.hid hSB
    have HZB : Hid ((Tryd.prog.info? 80).map (·.size) = some SB.size ∧ SB.size = 24 ∧ SB.all (·.oneCell') = true) := Lib.hid (by rw [hSB]; exact ⟨size_rst, rfl, one_cells _⟩)
    clear hSB
    have hS11 := hS10.below hS10.lt hb11
    have HR11 := Lib.hid (hR10.below hR10.lt hb11)
    have HB11 := Lib.hid (HB10.out.below HB10.out.lt hb11)
    have HK11 := Lib.hid (HK10.out.trans (Kept.of_below hb11))
    clear hS10 hR10 hb11 a0 a1 a2
    go_upto_region 22 with (refine wpList_store_row rfl 80 (.tmp 4) (.tmp 62) rfl b SB rfl rfl 80 _ hS11 HZB.out.1 (by rw [HZB.out.2.1, HZ.out.2.1]) HZB.out.2.2 ?_)
    have hb12 : Below b w11 (w11.setRow b SB) := below_setRow (Below.refl b w11) (Nat.le_refl _) SB
    have HS12 : Hid (Row (w11.setRow b SB) b 80 SB) := Lib.hid (setRow_heap _ _ _ _ _ _ hS11)
    have HR12 := Lib.hid (setRow_other HR11.out (show b + 1 + 1 ≠ b by omega) SB)
    have HB12 := Lib.hid (HB11.out.below HBB.out hb12)
    have HK12 := Lib.hid (HK11.out.go hb12 HW.out)
    clear hS11 hb12
    generalize w11.setRow b SB = w12 at *
    have HAG := Lib.hid (fun (W : World) (hb : Below w12.heap.size w12 W) => law_agrees HD.out HI10.out (HB12.out.below HB12.out.lt hb) (HT.out _ (HK12.out.trans (Kept.of_below hb))) HSB.out)
    refine wp_region_reliesT (ChF [.agg SB, .int .i64 (er : Int), .int .i64 (er : Int), .bool true, .bool true, .pointer (some ⟨B, 0, none⟩), .agg SB, .bool true, .bool true, undef, .bool true] [9] [] (StS w b B SB t)) (fun _ => true) (by kernel_rfl) (by kernel_rfl) (by kernel_rfl) (by kernel_rfl) (ChF.start ⟨HK12.out.drew, HS12.out.below HS12.out.lt (Below.refl _ _).drew, HB12.out.below HB12.out.lt (Below.refl _ _).drew, HR12.out.below HR12.out.lt (Below.refl _ _).drew⟩) ?obls ?fini
    case obls =>
      refine ⟨⟨?_, ?_⟩, ⟨?_, ?_⟩, ⟨?_, ?_⟩, ⟨?_, ?_⟩, ⟨?_, ?_⟩, ⟨?_, ?_⟩, ⟨?_, ?_⟩, ⟨?_, ?_⟩, ⟨?_, ?_⟩, ⟨?_, ?_⟩, ⟨?_, ?_⟩, trivial⟩
      · rfl
      · rintro ρ f W ⟨vs, us, hX⟩ hfi hw hcl hf
        have f4 : ρ (.tmp 4) = .pointer (some ⟨b, 0, none⟩) := hf.1 4 (by simp [Op.operands])
        exact ok_value (v := .agg SB) (w' := W) (exec_load_row 80 (.tmp 4) rfl b f4 hX.st.2.1 Tryd.underlying80 rfl HZB.out.1) (hX.pure 0 _ (by decide) (by decide) rfl hX.st)
      · rfl
      · rintro ρ f W ⟨vs, us, hX⟩ hfi hw hcl hf
        have f8 : ρ (.tmp 8) = .int .i64 (er : Int) := hf.1 8 (by simp [Op.operands])
        exact ok_value (v := .int .i64 (er : Int)) (w' := W) (by simp [execOp, f8]) (hX.pure 1 _ (by decide) (by decide) rfl hX.st)
      · rfl
      · rintro ρ f W ⟨vs, us, hX⟩ hfi hw hcl hf
        have f9 : ρ (.tmp 9) = .int .i64 (er : Int) := hf.1 9 (by simp [Op.operands])
        exact ok_value (v := .int .i64 (er : Int)) (w' := W) (by simp [execOp, f9]) (hX.pure 2 _ (by decide) (by decide) rfl hX.st)
      · rfl
      · rintro ρ f W ⟨vs, us, hX⟩ hfi hw hcl hf
        have f99 : ρ (.tmp 99) = .int .i64 (er : Int) := hX.val 1 _ _ (by decide) (by decide) (hf.1 99 (by simp [Op.operands])) rfl
        have f100 : ρ (.tmp 100) = .int .i64 (er : Int) := hX.val 2 _ _ (by decide) (by decide) (hf.1 100 (by simp [Op.operands])) rfl
        exact ok_value (v := .bool true) (w' := W) (by simp [execOp, f99, f100, go_sem]) (hX.pure 3 _ (by decide) (by decide) rfl hX.st)
      · rfl
      · rintro ρ f W ⟨vs, us, hX⟩ hfi hw hcl hf
        have f101 : ρ (.tmp 101) = .bool true := hX.val 3 _ _ (by decide) (by decide) (hf.1 101 (by simp [Op.operands])) rfl
        exact ok_value (v := .bool true) (w' := W) (by simp [execOp, f101]) (hX.pure 4 _ (by decide) (by decide) rfl hX.st)
      · rintro f W v ⟨vs, us, hX⟩ hv
        exact hX.val 4 _ _ (by decide) (by decide) hv rfl
      · rintro ρ f W ⟨vs, us, hX⟩ hfi hw hcl hf
        have f0 : ρ (.tmp 0) = .pointer (some ⟨B, 0, none⟩) := hf.1 0 (by simp [Op.operands])
        exact ok_value (v := .pointer (some ⟨B, 0, none⟩)) (w' := W) (by simp [execOp, f0]) (hX.pure 5 _ (by decide) (by decide) rfl hX.st)
      · rintro f W v ⟨vs, us, hX⟩ hv
        exact hX.val 4 _ _ (by decide) (by decide) hv rfl
      · rintro ρ f W ⟨vs, us, hX⟩ hfi hw hcl hf
        have f4 : ρ (.tmp 4) = .pointer (some ⟨b, 0, none⟩) := hf.1 4 (by simp [Op.operands])
        exact ok_value (v := .agg SB) (w' := W) (exec_load_row 80 (.tmp 4) rfl b f4 hX.st.2.1 Tryd.underlying80 rfl HZB.out.1) (hX.pure 6 _ (by decide) (by decide) rfl hX.st)
      · rintro f W v ⟨vs, us, hX⟩ hv
        exact hX.val 4 _ _ (by decide) (by decide) hv rfl
      · rintro ρ f W ⟨vs, us, hX⟩ hfi hw hcl hf
        have f103 : ρ (.tmp 103) = .pointer (some ⟨B, 0, none⟩) := hX.val 5 _ _ (by decide) (by decide) (hf.1 103 (by simp [Op.operands, Call.operands])) rfl
        have f104 : ρ (.tmp 104) = .agg SB := hX.val 6 _ _ (by decide) (by decide) (hf.1 104 (by simp [Op.operands, Call.operands])) rfl
        refine ok_call (f := 37) (args := #[.pointer (some ⟨B, 0, none⟩), .agg SB]) (by simp [execOp, f103, f104, hf.2.2.2, go_sem]) ?_
        refine (law_agrees HD.out HI10.out hX.st.2.2.1 (HT.out _ hX.st.1) HSB.out).mono ?_
        rintro e w5 ⟨rfl, hb5⟩
        exact ⟨_, rfl, hX.pure 7 _ (by decide) (by decide) rfl (StS.below hX.st hb5)⟩
      · rfl
      · rintro ρ f W ⟨vs, us, hX⟩ hfi hw hcl hf
        have f102 : ρ (.tmp 102) = .bool true := hX.val 4 _ _ (by decide) (by decide) (hf.1 102 (by simp [Op.operands])) rfl
        have f105 : ρ (.tmp 105) = .bool true := hX.val 7 _ _ (by decide) (by decide) (hf.1 105 (by simp [Op.operands])) rfl
        exact ok_value (v := .bool true) (w' := W) (by simp [execOp, f102, f105, hf.2.1, go_sem]) (hX.pure 8 _ (by decide) (by decide) rfl hX.st)
      · rfl
      · rintro ρ f W ⟨vs, us, hX⟩ hfi hw hcl hf
        have f6 : ρ (.tmp 6) = .pointer (some ⟨b + 1 + 1, 0, none⟩) := hf.1 6 (by simp [Op.operands])
        have f98 : ρ (.tmp 98) = .agg SB := hX.val 0 _ _ (by decide) (by decide) (hf.1 98 (by simp [Op.operands])) rfl
        have hl := hX.le1 0 9 rfl hfi
        obtain rfl := list0 hl
        obtain ⟨hk1, hs1, ht1, hr1⟩ := hX.st
        have hb5 := below_setRow (Below.refl (b + 1 + 1) W) (Nat.le_refl _) SB
        exact ok_skip (exec_store_row 80 (.tmp 6) (.tmp 98) rfl (b + 1 + 1) SB f6 f98 hr1 HZB.out.1 (by rw [HZB.out.2.1]; rfl) HZB.out.2.2) (hX.step1 9 _ rfl (by decide) (by decide) ⟨hk1.go hb5 (by have := HW.out; omega), hs1.below (by omega) hb5, ht1.below (by have := HBB.out; omega) hb5, setRow_heap _ _ _ _ _ _ hr1⟩)
      · rfl
      · rintro ρ f W ⟨vs, us, hX⟩ hfi hw hcl hf
        have f106 : ρ (.tmp 106) = .bool true := hX.val 8 _ _ (by decide) (by decide) (hf.1 106 (by simp [Op.operands])) rfl
        exact ok_value (v := .bool true) (w' := W) (by simp [execOp, f106]) (hX.pure 10 _ (by decide) (by decide) rfl hX.st)
    case fini =>
      rintro us w13 hlen ⟨vs, us', hX⟩
      have hl0 : us.length = 11 := hlen
      match us, hl0 with
      | [y0, y1, y2, y3, y4, y5, y6, y7, y8, y9, y10], _ =>
        have hst := hX.st
        have hvs := list1 hX.l1 (hX.get1 0 9 rfl (v := y9) rfl)
        have hy : y10 = .bool true := hX.val 10 _ _ (by decide) (by decide) rfl rfl
        subst hy
        rw [hvs] at hst
        obtain ⟨hK13, hS13, hB13, hR13⟩ := hst
        have HK13 := Lib.hid hK13
        have HB13 := Lib.hid hB13
        have HR13 := Lib.hid hR13
        clear hX hvs hK13 hB13 hR13 hS13 hlen
        simp only [putAll, List.zip_cons_cons, List.zip_nil_right, List.foldl_cons, List.foldl_nil]
        simp only [Act.put, List.setIfInBounds_toArray, List.set_cons_succ, List.set_cons_zero]
        go_wp2_with fail
        refine bodyPost_ret (v := .tuple #[.agg SB, .bool true]) (results_cellt Tryd.results38 _ _ (b + 1 + 1) _ SB (0, 0) _ rfl HR13.out Tryd.underlying80 rfl HZB.out.1) rfl ?_
        exact ⟨HTS.out ▸ HI10.out, by rw [HSB.out, HTS.out], HTS.out ▸ HB13.out, HK13.out⟩
  by_cases h6 : a.kind % 8 = 6
  · have t0 : ((a.kind : Int)).tmod 8 = ((a.kind % 8 : Nat) : Int) := by rw [Int.tmod_eq_emod_of_nonneg (by omega)]; omega
    rw [h6] at t0
    have hts : stepS s a = (s.chooseV a.card).1 := by unfold stepS; rw [if_neg h4, if_neg h5, if_pos h6]
    obtain ⟨t, er, he⟩ : ∃ t er, s.chooseV a.card = (t, er) := ⟨_, _, rfl⟩
    rw [he] at hts
    have HTS : Hid (t = stepS s a) := Lib.hid hts.symm
    clear hts
    clear h4 h5 h6
    have HK9 := HK1
    have HS9 := HS1
    have HR9 := HR1
    have HA9 := HA1
    have HB9 := HB1
    have HP9 := Lib.hid (fun (W : World) (h1 : TblAt W B s) (h2 : Tab W) => tb_Choose HD.out HI.out h1 a.card)
    have hi10 := HI.out.choose HD.out a.card
    simp only [he] at HP9 hi10
    have HI10 := Lib.hid hi10
    clear hi10
    go_wp2_with fail
    refine (HP9.out w1 HB9.out (HT.out _ HK9.out)).mono ?_
    rintro e w10 ⟨rfl, hr10, hk10⟩
    clear a0 a1 a2
    have HK10 := Lib.hid (HK9.out.trans hk10)
    have hS10 := HS9.out.kept (S := fun k => k ≠ B) (show b ≠ B from Nat.ne_of_gt HBB.out) hk10
    have hR10 := HR9.out.kept (S := fun k => k ≠ B) (show b + 1 + 1 ≠ B by have := HBB.out; omega) hk10
    have hA10 := HA9.out.kept (S := fun k => k ≠ B) (show b + 1 ≠ B by have := HBB.out; omega) hk10
    have HB10 := Lib.hid hr10
    have a0 := hA10.cell 0
    have a1 := hA10.cell 1
    have a2 := hA10.cell 2
    simp only [List.getElem?_toArray, List.getElem?_cons_zero, List.getElem?_cons_succ] at a0 a1 a2
    clear hk10 hr10 hA10
    go_upto_region 18 with fail
    go_wp2_with (refine wpList_load_row rfl 80 (.tmp 4) rfl b rfl 80 SA (0, 0) _ hS10 Tryd.underlying80 rfl HZ.out.1 ?_)
    refine (lf_Choose HI.out HSA.out he w10).mono ?_
    rintro e w11 ⟨SB, ⟨hSB, rfl⟩, hb11⟩
    have HSB := Lib.hid hSB
    have HZB : Hid ((Tryd.prog.info? 80).map (·.size) = some SB.size ∧ SB.size = 24 ∧ SB.all (·.oneCell') = true) := Lib.hid (by rw [hSB]; exact ⟨size_rst, rfl, one_cells _⟩)
    clear hSB
    have hS11 := hS10.below hS10.lt hb11
    have HR11 := Lib.hid (hR10.below hR10.lt hb11)
    have HB11 := Lib.hid (HB10.out.below HB10.out.lt hb11)
    have HK11 := Lib.hid (HK10.out.trans (Kept.of_below hb11))
    clear hS10 hR10 hb11 a0 a1 a2
    go_upto_region 22 with (refine wpList_store_row rfl 80 (.tmp 4) (.tmp 75) rfl b SB rfl rfl 80 _ hS11 HZB.out.1 (by rw [HZB.out.2.1, HZ.out.2.1]) HZB.out.2.2 ?_)
    have hb12 : Below b w11 (w11.setRow b SB) := below_setRow (Below.refl b w11) (Nat.le_refl _) SB
    have HS12 : Hid (Row (w11.setRow b SB) b 80 SB) := Lib.hid (setRow_heap _ _ _ _ _ _ hS11)
    have HR12 := Lib.hid (setRow_other HR11.out (show b + 1 + 1 ≠ b by omega) SB)
    have HB12 := Lib.hid (HB11.out.below HBB.out hb12)
    have HK12 := Lib.hid (HK11.out.go hb12 HW.out)
    clear hS11 hb12
    generalize w11.setRow b SB = w12 at *
    have HAG := Lib.hid (fun (W : World) (hb : Below w12.heap.size w12 W) => law_agrees HD.out HI10.out (HB12.out.below HB12.out.lt hb) (HT.out _ (HK12.out.trans (Kept.of_below hb))) HSB.out)
    refine wp_region_reliesT (ChF [.agg SB, .int .i64 (er : Int), .int .i64 (er : Int), .bool true, .bool true, .pointer (some ⟨B, 0, none⟩), .agg SB, .bool true, .bool true, undef, .bool true] [9] [] (StS w b B SB t)) (fun _ => true) (by kernel_rfl) (by kernel_rfl) (by kernel_rfl) (by kernel_rfl) (ChF.start ⟨HK12.out.drew, HS12.out.below HS12.out.lt (Below.refl _ _).drew, HB12.out.below HB12.out.lt (Below.refl _ _).drew, HR12.out.below HR12.out.lt (Below.refl _ _).drew⟩) ?obls ?fini
    case obls =>
      refine ⟨⟨?_, ?_⟩, ⟨?_, ?_⟩, ⟨?_, ?_⟩, ⟨?_, ?_⟩, ⟨?_, ?_⟩, ⟨?_, ?_⟩, ⟨?_, ?_⟩, ⟨?_, ?_⟩, ⟨?_, ?_⟩, ⟨?_, ?_⟩, ⟨?_, ?_⟩, trivial⟩
      · rfl
      · rintro ρ f W ⟨vs, us, hX⟩ hfi hw hcl hf
        have f4 : ρ (.tmp 4) = .pointer (some ⟨b, 0, none⟩) := hf.1 4 (by simp [Op.operands])
        exact ok_value (v := .agg SB) (w' := W) (exec_load_row 80 (.tmp 4) rfl b f4 hX.st.2.1 Tryd.underlying80 rfl HZB.out.1) (hX.pure 0 _ (by decide) (by decide) rfl hX.st)
      · rfl
      · rintro ρ f W ⟨vs, us, hX⟩ hfi hw hcl hf
        have f8 : ρ (.tmp 8) = .int .i64 (er : Int) := hf.1 8 (by simp [Op.operands])
        exact ok_value (v := .int .i64 (er : Int)) (w' := W) (by simp [execOp, f8]) (hX.pure 1 _ (by decide) (by decide) rfl hX.st)
      · rfl
      · rintro ρ f W ⟨vs, us, hX⟩ hfi hw hcl hf
        have f9 : ρ (.tmp 9) = .int .i64 (er : Int) := hf.1 9 (by simp [Op.operands])
        exact ok_value (v := .int .i64 (er : Int)) (w' := W) (by simp [execOp, f9]) (hX.pure 2 _ (by decide) (by decide) rfl hX.st)
      · rfl
      · rintro ρ f W ⟨vs, us, hX⟩ hfi hw hcl hf
        have f99 : ρ (.tmp 99) = .int .i64 (er : Int) := hX.val 1 _ _ (by decide) (by decide) (hf.1 99 (by simp [Op.operands])) rfl
        have f100 : ρ (.tmp 100) = .int .i64 (er : Int) := hX.val 2 _ _ (by decide) (by decide) (hf.1 100 (by simp [Op.operands])) rfl
        exact ok_value (v := .bool true) (w' := W) (by simp [execOp, f99, f100, go_sem]) (hX.pure 3 _ (by decide) (by decide) rfl hX.st)
      · rfl
      · rintro ρ f W ⟨vs, us, hX⟩ hfi hw hcl hf
        have f101 : ρ (.tmp 101) = .bool true := hX.val 3 _ _ (by decide) (by decide) (hf.1 101 (by simp [Op.operands])) rfl
        exact ok_value (v := .bool true) (w' := W) (by simp [execOp, f101]) (hX.pure 4 _ (by decide) (by decide) rfl hX.st)
      · rintro f W v ⟨vs, us, hX⟩ hv
        exact hX.val 4 _ _ (by decide) (by decide) hv rfl
      · rintro ρ f W ⟨vs, us, hX⟩ hfi hw hcl hf
        have f0 : ρ (.tmp 0) = .pointer (some ⟨B, 0, none⟩) := hf.1 0 (by simp [Op.operands])
        exact ok_value (v := .pointer (some ⟨B, 0, none⟩)) (w' := W) (by simp [execOp, f0]) (hX.pure 5 _ (by decide) (by decide) rfl hX.st)
      · rintro f W v ⟨vs, us, hX⟩ hv
        exact hX.val 4 _ _ (by decide) (by decide) hv rfl
      · rintro ρ f W ⟨vs, us, hX⟩ hfi hw hcl hf
        have f4 : ρ (.tmp 4) = .pointer (some ⟨b, 0, none⟩) := hf.1 4 (by simp [Op.operands])
        exact ok_value (v := .agg SB) (w' := W) (exec_load_row 80 (.tmp 4) rfl b f4 hX.st.2.1 Tryd.underlying80 rfl HZB.out.1) (hX.pure 6 _ (by decide) (by decide) rfl hX.st)
      · rintro f W v ⟨vs, us, hX⟩ hv
        exact hX.val 4 _ _ (by decide) (by decide) hv rfl
      · rintro ρ f W ⟨vs, us, hX⟩ hfi hw hcl hf
        have f103 : ρ (.tmp 103) = .pointer (some ⟨B, 0, none⟩) := hX.val 5 _ _ (by decide) (by decide) (hf.1 103 (by simp [Op.operands, Call.operands])) rfl
        have f104 : ρ (.tmp 104) = .agg SB := hX.val 6 _ _ (by decide) (by decide) (hf.1 104 (by simp [Op.operands, Call.operands])) rfl
        refine ok_call (f := 37) (args := #[.pointer (some ⟨B, 0, none⟩), .agg SB]) (by simp [execOp, f103, f104, hf.2.2.2, go_sem]) ?_
        refine (law_agrees HD.out HI10.out hX.st.2.2.1 (HT.out _ hX.st.1) HSB.out).mono ?_
        rintro e w5 ⟨rfl, hb5⟩
        exact ⟨_, rfl, hX.pure 7 _ (by decide) (by decide) rfl (StS.below hX.st hb5)⟩
      · rfl
      · rintro ρ f W ⟨vs, us, hX⟩ hfi hw hcl hf
        have f102 : ρ (.tmp 102) = .bool true := hX.val 4 _ _ (by decide) (by decide) (hf.1 102 (by simp [Op.operands])) rfl
        have f105 : ρ (.tmp 105) = .bool true := hX.val 7 _ _ (by decide) (by decide) (hf.1 105 (by simp [Op.operands])) rfl
        exact ok_value (v := .bool true) (w' := W) (by simp [execOp, f102, f105, hf.2.1, go_sem]) (hX.pure 8 _ (by decide) (by decide) rfl hX.st)
      · rfl
      · rintro ρ f W ⟨vs, us, hX⟩ hfi hw hcl hf
        have f6 : ρ (.tmp 6) = .pointer (some ⟨b + 1 + 1, 0, none⟩) := hf.1 6 (by simp [Op.operands])
        have f98 : ρ (.tmp 98) = .agg SB := hX.val 0 _ _ (by decide) (by decide) (hf.1 98 (by simp [Op.operands])) rfl
        have hl := hX.le1 0 9 rfl hfi
        obtain rfl := list0 hl
        obtain ⟨hk1, hs1, ht1, hr1⟩ := hX.st
        have hb5 := below_setRow (Below.refl (b + 1 + 1) W) (Nat.le_refl _) SB
        exact ok_skip (exec_store_row 80 (.tmp 6) (.tmp 98) rfl (b + 1 + 1) SB f6 f98 hr1 HZB.out.1 (by rw [HZB.out.2.1]; rfl) HZB.out.2.2) (hX.step1 9 _ rfl (by decide) (by decide) ⟨hk1.go hb5 (by have := HW.out; omega), hs1.below (by omega) hb5, ht1.below (by have := HBB.out; omega) hb5, setRow_heap _ _ _ _ _ _ hr1⟩)
      · rfl
      · rintro ρ f W ⟨vs, us, hX⟩ hfi hw hcl hf
        have f106 : ρ (.tmp 106) = .bool true := hX.val 8 _ _ (by decide) (by decide) (hf.1 106 (by simp [Op.operands])) rfl
        exact ok_value (v := .bool true) (w' := W) (by simp [execOp, f106]) (hX.pure 10 _ (by decide) (by decide) rfl hX.st)
    case fini =>
      rintro us w13 hlen ⟨vs, us', hX⟩
      have hl0 : us.length = 11 := hlen
      match us, hl0 with
      | [y0, y1, y2, y3, y4, y5, y6, y7, y8, y9, y10], _ =>
        have hst := hX.st
        have hvs := list1 hX.l1 (hX.get1 0 9 rfl (v := y9) rfl)
        have hy : y10 = .bool true := hX.val 10 _ _ (by decide) (by decide) rfl rfl
        subst hy
        rw [hvs] at hst
        obtain ⟨hK13, hS13, hB13, hR13⟩ := hst
        have HK13 := Lib.hid hK13
        have HB13 := Lib.hid hB13
        have HR13 := Lib.hid hR13
        clear hX hvs hK13 hB13 hR13 hS13 hlen
        simp only [putAll, List.zip_cons_cons, List.zip_nil_right, List.foldl_cons, List.foldl_nil]
        simp only [Act.put, List.setIfInBounds_toArray, List.set_cons_succ, List.set_cons_zero]
        go_wp2_with fail
        refine bodyPost_ret (v := .tuple #[.agg SB, .bool true]) (results_cellt Tryd.results38 _ _ (b + 1 + 1) _ SB (0, 0) _ rfl HR13.out Tryd.underlying80 rfl HZB.out.1) rfl ?_
        exact ⟨HTS.out ▸ HI10.out, by rw [HSB.out, HTS.out], HTS.out ▸ HB13.out, HK13.out⟩
  by_cases h7 : a.kind % 8 = 7
  · have t0 : ((a.kind : Int)).tmod 8 = ((a.kind % 8 : Nat) : Int) := by rw [Int.tmod_eq_emod_of_nonneg (by omega)]; omega
    rw [h7] at t0
    have hts : stepS s a = (s.demandV a.card (a.seat % 2 == 0)).1 := by unfold stepS; rw [if_neg h4, if_neg h5, if_neg h6, if_pos h7]
    obtain ⟨r, hr⟩ : ∃ r, r = a.seat % 2 := ⟨_, rfl⟩
    rw [← hr] at hts
    have t3 : ((a.seat : Int)).tmod 2 = (r : Int) := by rw [Int.tmod_eq_emod_of_nonneg (by omega)]; omega
    have t4 : IntKind.u8.wrap (r : Int) = (r : Int) := by rw [IntKind.wrap_u8]; omega
    have t5 : ((r : Int) == 0) = (r == 0) := beq_cast r 0
    obtain ⟨rq, hrq⟩ : ∃ x, (r == 0) = x := ⟨_, rfl⟩
    rw [hrq] at t5 hts
    obtain ⟨t, er, he⟩ : ∃ t er, s.demandV a.card rq = (t, er) := ⟨_, _, rfl⟩
    rw [he] at hts
    have HTS : Hid (t = stepS s a) := Lib.hid hts.symm
    clear hts
    clear h4 h5 h6 h7 hr hrq
    have HK9 := HK1
    have HS9 := HS1
    have HR9 := HR1
    have HA9 := HA1
    have HB9 := HB1
    have HP9 := Lib.hid (fun (W : World) (h1 : TblAt W B s) (h2 : Tab W) => tb_Demand HD.out HI.out h1 a.card rq hcd)
    have hi10 := HI.out.demand a.card rq
    simp only [he] at HP9 hi10
    have HI10 := Lib.hid hi10
    clear hi10
    go_wp2_with fail
    refine (HP9.out w1 HB9.out (HT.out _ HK9.out)).mono ?_
    rintro e w10 ⟨rfl, hr10, hk10⟩
    clear a0 a1 a2
    have HK10 := Lib.hid (HK9.out.trans hk10)
    have hS10 := HS9.out.kept (S := fun k => k ≠ B) (show b ≠ B from Nat.ne_of_gt HBB.out) hk10
    have hR10 := HR9.out.kept (S := fun k => k ≠ B) (show b + 1 + 1 ≠ B by have := HBB.out; omega) hk10
    have hA10 := HA9.out.kept (S := fun k => k ≠ B) (show b + 1 ≠ B by have := HBB.out; omega) hk10
    have HB10 := Lib.hid hr10
    have a0 := hA10.cell 0
    have a1 := hA10.cell 1
    have a2 := hA10.cell 2
    simp only [List.getElem?_toArray, List.getElem?_cons_zero, List.getElem?_cons_succ] at a0 a1 a2
    clear hk10 hr10 hA10
    go_upto_region 21 with fail
    go_wp2_with (refine wpList_load_row rfl 80 (.tmp 4) rfl b rfl 80 SA (0, 0) _ hS10 Tryd.underlying80 rfl HZ.out.1 ?_)
    refine (lf_Demand HI.out HSA.out hcd he w10).mono ?_
    rintro e w11 ⟨SB, ⟨hSB, rfl⟩, hb11⟩
    have HSB := Lib.hid hSB
    have HZB : Hid ((Tryd.prog.info? 80).map (·.size) = some SB.size ∧ SB.size = 24 ∧ SB.all (·.oneCell') = true) := Lib.hid (by rw [hSB]; exact ⟨size_rst, rfl, one_cells _⟩)
    clear hSB
    have hS11 := hS10.below hS10.lt hb11
    have HR11 := Lib.hid (hR10.below hR10.lt hb11)
    have HB11 := Lib.hid (HB10.out.below HB10.out.lt hb11)
    have HK11 := Lib.hid (HK10.out.trans (Kept.of_below hb11))
    clear hS10 hR10 hb11 a0 a1 a2
    go_upto_region 22 with (refine wpList_store_row rfl 80 (.tmp 4) (.tmp 96) rfl b SB rfl rfl 80 _ hS11 HZB.out.1 (by rw [HZB.out.2.1, HZ.out.2.1]) HZB.out.2.2 ?_)
    have hb12 : Below b w11 (w11.setRow b SB) := below_setRow (Below.refl b w11) (Nat.le_refl _) SB
    have HS12 : Hid (Row (w11.setRow b SB) b 80 SB) := Lib.hid (setRow_heap _ _ _ _ _ _ hS11)
    have HR12 := Lib.hid (setRow_other HR11.out (show b + 1 + 1 ≠ b by omega) SB)
    have HB12 := Lib.hid (HB11.out.below HBB.out hb12)
    have HK12 := Lib.hid (HK11.out.go hb12 HW.out)
    clear hS11 hb12
    generalize w11.setRow b SB = w12 at *
    have HAG := Lib.hid (fun (W : World) (hb : Below w12.heap.size w12 W) => law_agrees HD.out HI10.out (HB12.out.below HB12.out.lt hb) (HT.out _ (HK12.out.trans (Kept.of_below hb))) HSB.out)
    refine wp_region_reliesT (ChF [.agg SB, .int .i64 (er : Int), .int .i64 (er : Int), .bool true, .bool true, .pointer (some ⟨B, 0, none⟩), .agg SB, .bool true, .bool true, undef, .bool true] [9] [] (StS w b B SB t)) (fun _ => true) (by kernel_rfl) (by kernel_rfl) (by kernel_rfl) (by kernel_rfl) (ChF.start ⟨HK12.out.drew, HS12.out.below HS12.out.lt (Below.refl _ _).drew, HB12.out.below HB12.out.lt (Below.refl _ _).drew, HR12.out.below HR12.out.lt (Below.refl _ _).drew⟩) ?obls ?fini
    case obls =>
      refine ⟨⟨?_, ?_⟩, ⟨?_, ?_⟩, ⟨?_, ?_⟩, ⟨?_, ?_⟩, ⟨?_, ?_⟩, ⟨?_, ?_⟩, ⟨?_, ?_⟩, ⟨?_, ?_⟩, ⟨?_, ?_⟩, ⟨?_, ?_⟩, ⟨?_, ?_⟩, trivial⟩
      · rfl
      · rintro ρ f W ⟨vs, us, hX⟩ hfi hw hcl hf
        have f4 : ρ (.tmp 4) = .pointer (some ⟨b, 0, none⟩) := hf.1 4 (by simp [Op.operands])
        exact ok_value (v := .agg SB) (w' := W) (exec_load_row 80 (.tmp 4) rfl b f4 hX.st.2.1 Tryd.underlying80 rfl HZB.out.1) (hX.pure 0 _ (by decide) (by decide) rfl hX.st)
      · rfl
      · rintro ρ f W ⟨vs, us, hX⟩ hfi hw hcl hf
        have f8 : ρ (.tmp 8) = .int .i64 (er : Int) := hf.1 8 (by simp [Op.operands])
        exact ok_value (v := .int .i64 (er : Int)) (w' := W) (by simp [execOp, f8]) (hX.pure 1 _ (by decide) (by decide) rfl hX.st)
      · rfl
      · rintro ρ f W ⟨vs, us, hX⟩ hfi hw hcl hf
        have f9 : ρ (.tmp 9) = .int .i64 (er : Int) := hf.1 9 (by simp [Op.operands])
        exact ok_value (v := .int .i64 (er : Int)) (w' := W) (by simp [execOp, f9]) (hX.pure 2 _ (by decide) (by decide) rfl hX.st)
      · rfl
      · rintro ρ f W ⟨vs, us, hX⟩ hfi hw hcl hf
        have f99 : ρ (.tmp 99) = .int .i64 (er : Int) := hX.val 1 _ _ (by decide) (by decide) (hf.1 99 (by simp [Op.operands])) rfl
        have f100 : ρ (.tmp 100) = .int .i64 (er : Int) := hX.val 2 _ _ (by decide) (by decide) (hf.1 100 (by simp [Op.operands])) rfl
        exact ok_value (v := .bool true) (w' := W) (by simp [execOp, f99, f100, go_sem]) (hX.pure 3 _ (by decide) (by decide) rfl hX.st)
      · rfl
      · rintro ρ f W ⟨vs, us, hX⟩ hfi hw hcl hf
        have f101 : ρ (.tmp 101) = .bool true := hX.val 3 _ _ (by decide) (by decide) (hf.1 101 (by simp [Op.operands])) rfl
        exact ok_value (v := .bool true) (w' := W) (by simp [execOp, f101]) (hX.pure 4 _ (by decide) (by decide) rfl hX.st)
      · rintro f W v ⟨vs, us, hX⟩ hv
        exact hX.val 4 _ _ (by decide) (by decide) hv rfl
      · rintro ρ f W ⟨vs, us, hX⟩ hfi hw hcl hf
        have f0 : ρ (.tmp 0) = .pointer (some ⟨B, 0, none⟩) := hf.1 0 (by simp [Op.operands])
        exact ok_value (v := .pointer (some ⟨B, 0, none⟩)) (w' := W) (by simp [execOp, f0]) (hX.pure 5 _ (by decide) (by decide) rfl hX.st)
      · rintro f W v ⟨vs, us, hX⟩ hv
        exact hX.val 4 _ _ (by decide) (by decide) hv rfl
      · rintro ρ f W ⟨vs, us, hX⟩ hfi hw hcl hf
        have f4 : ρ (.tmp 4) = .pointer (some ⟨b, 0, none⟩) := hf.1 4 (by simp [Op.operands])
        exact ok_value (v := .agg SB) (w' := W) (exec_load_row 80 (.tmp 4) rfl b f4 hX.st.2.1 Tryd.underlying80 rfl HZB.out.1) (hX.pure 6 _ (by decide) (by decide) rfl hX.st)
      · rintro f W v ⟨vs, us, hX⟩ hv
        exact hX.val 4 _ _ (by decide) (by decide) hv rfl
      · rintro ρ f W ⟨vs, us, hX⟩ hfi hw hcl hf
        have f103 : ρ (.tmp 103) = .pointer (some ⟨B, 0, none⟩) := hX.val 5 _ _ (by decide) (by decide) (hf.1 103 (by simp [Op.operands, Call.operands])) rfl
        have f104 : ρ (.tmp 104) = .agg SB := hX.val 6 _ _ (by decide) (by decide) (hf.1 104 (by simp [Op.operands, Call.operands])) rfl
        refine ok_call (f := 37) (args := #[.pointer (some ⟨B, 0, none⟩), .agg SB]) (by simp [execOp, f103, f104, hf.2.2.2, go_sem]) ?_
        refine (law_agrees HD.out HI10.out hX.st.2.2.1 (HT.out _ hX.st.1) HSB.out).mono ?_
        rintro e w5 ⟨rfl, hb5⟩
        exact ⟨_, rfl, hX.pure 7 _ (by decide) (by decide) rfl (StS.below hX.st hb5)⟩
      · rfl
      · rintro ρ f W ⟨vs, us, hX⟩ hfi hw hcl hf
        have f102 : ρ (.tmp 102) = .bool true := hX.val 4 _ _ (by decide) (by decide) (hf.1 102 (by simp [Op.operands])) rfl
        have f105 : ρ (.tmp 105) = .bool true := hX.val 7 _ _ (by decide) (by decide) (hf.1 105 (by simp [Op.operands])) rfl
        exact ok_value (v := .bool true) (w' := W) (by simp [execOp, f102, f105, hf.2.1, go_sem]) (hX.pure 8 _ (by decide) (by decide) rfl hX.st)
      · rfl
      · rintro ρ f W ⟨vs, us, hX⟩ hfi hw hcl hf
        have f6 : ρ (.tmp 6) = .pointer (some ⟨b + 1 + 1, 0, none⟩) := hf.1 6 (by simp [Op.operands])
        have f98 : ρ (.tmp 98) = .agg SB := hX.val 0 _ _ (by decide) (by decide) (hf.1 98 (by simp [Op.operands])) rfl
        have hl := hX.le1 0 9 rfl hfi
        obtain rfl := list0 hl
        obtain ⟨hk1, hs1, ht1, hr1⟩ := hX.st
        have hb5 := below_setRow (Below.refl (b + 1 + 1) W) (Nat.le_refl _) SB
        exact ok_skip (exec_store_row 80 (.tmp 6) (.tmp 98) rfl (b + 1 + 1) SB f6 f98 hr1 HZB.out.1 (by rw [HZB.out.2.1]; rfl) HZB.out.2.2) (hX.step1 9 _ rfl (by decide) (by decide) ⟨hk1.go hb5 (by have := HW.out; omega), hs1.below (by omega) hb5, ht1.below (by have := HBB.out; omega) hb5, setRow_heap _ _ _ _ _ _ hr1⟩)
      · rfl
      · rintro ρ f W ⟨vs, us, hX⟩ hfi hw hcl hf
        have f106 : ρ (.tmp 106) = .bool true := hX.val 8 _ _ (by decide) (by decide) (hf.1 106 (by simp [Op.operands])) rfl
        exact ok_value (v := .bool true) (w' := W) (by simp [execOp, f106]) (hX.pure 10 _ (by decide) (by decide) rfl hX.st)
    case fini =>
      rintro us w13 hlen ⟨vs, us', hX⟩
      have hl0 : us.length = 11 := hlen
      match us, hl0 with
      | [y0, y1, y2, y3, y4, y5, y6, y7, y8, y9, y10], _ =>
        have hst := hX.st
        have hvs := list1 hX.l1 (hX.get1 0 9 rfl (v := y9) rfl)
        have hy : y10 = .bool true := hX.val 10 _ _ (by decide) (by decide) rfl rfl
        subst hy
        rw [hvs] at hst
        obtain ⟨hK13, hS13, hB13, hR13⟩ := hst
        have HK13 := Lib.hid hK13
        have HB13 := Lib.hid hB13
        have HR13 := Lib.hid hR13
        clear hX hvs hK13 hB13 hR13 hS13 hlen
        simp only [putAll, List.zip_cons_cons, List.zip_nil_right, List.foldl_cons, List.foldl_nil]
        simp only [Act.put, List.setIfInBounds_toArray, List.set_cons_succ, List.set_cons_zero]
        go_wp2_with fail
        refine bodyPost_ret (v := .tuple #[.agg SB, .bool true]) (results_cellt Tryd.results38 _ _ (b + 1 + 1) _ SB (0, 0) _ rfl HR13.out Tryd.underlying80 rfl HZB.out.1) rfl ?_
        exact ⟨HTS.out ▸ HI10.out, by rw [HSB.out, HTS.out], HTS.out ▸ HB13.out, HK13.out⟩
  obtain ⟨q, hq, hq8⟩ : ∃ q, q = a.kind % 8 ∧ q < 8 := ⟨_, rfl, by omega⟩
  have t0 : ((a.kind : Int)).tmod 8 = (q : Int) := by rw [Int.tmod_eq_emod_of_nonneg (by omega)]; omega
  have t1 : IntKind.u8.wrap (q : Int) = (q : Int) := by rw [IntKind.wrap_u8]; omega
  have e4 : ((q : Int) == 4) = false := by rw [beq_eq_false_iff_ne]; omega
  have e5 : ((q : Int) == 5) = false := by rw [beq_eq_false_iff_ne]; omega
  have e6 : ((q : Int) == 6) = false := by rw [beq_eq_false_iff_ne]; omega
  have e7 : ((q : Int) == 7) = false := by rw [beq_eq_false_iff_ne]; omega
  have hts : stepS s a = (s.playV (if q < 3 then nthV s.legal a.card else a.card)).1 := by unfold stepS; rw [if_neg h4, if_neg h5, if_neg h6, if_neg h7, hq]
  clear h4 h5 h6 h7 hq
  by_cases h3 : q < 3
  · have h3I : (q : Int) < 3 := by omega
    rw [if_pos h3] at hts
    have HLG := Lib.hid (fun W => lf_Legal HI.out HSA.out W)
    have HN := Lib.hid (fun W => law_nth s.legal a.card (legal_w64 HI.out.ok) hcd W)
    have hcl := nthV_lt s.legal a.card
    generalize nthV s.legal a.card = c at *
    obtain ⟨t, er, he⟩ : ∃ t er, s.playV c = (t, er) := ⟨_, _, rfl⟩
    rw [he] at hts
    have HTS : Hid (t = stepS s a) := Lib.hid hts.symm
    clear hts
    generalize s.legal = m at HLG HN
    clear h3
    have hS1 := HS1.out
    go_upto_region 6 with fail
    go_wp2_with (refine wpList_load_row rfl 80 (.tmp 4) rfl b rfl 80 SA (0, 0) _ hS1 Tryd.underlying80 rfl HZ.out.1 ?_)
    refine (HLG.out w1).mono ?_
    rintro e w8 ⟨rfl, hb8⟩
    go_wp2_with fail
    refine (HN.out w8).mono ?_
    rintro e w9 ⟨rfl, hb9'⟩
    have hb9 := hb8.trans (hb9'.mono hb8.size)
    clear hb8 hb9' hS1 a0 a1 a2
    have HK9 := Lib.hid (HK1.out.trans (Kept.of_below hb9))
    have HS9 := Lib.hid (HS1.out.below HS1.out.lt hb9)
    have HR9 := Lib.hid (HR1.out.below HR1.out.lt hb9)
    have hA9 := HA1.out.below HA1.out.lt hb9
    have HA9 := Lib.hid hA9
    have HB9 := Lib.hid (HB1.out.below HB1.out.lt hb9)
    have a0' := hA9.cell 0
    have a1' := hA9.cell 1
    have a2' := hA9.cell 2
    simp only [List.getElem?_toArray, List.getElem?_cons_zero, List.getElem?_cons_succ] at a0' a1' a2'
    clear hA9 hb9
    have HP9 := Lib.hid (fun (W : World) (h1 : TblAt W B s) (h2 : Tab W) => tb_Play HD.out HI.out h1 h2 c)
    have hi10 := HI.out.play HD.out c
    simp only [he] at HP9 hi10
    have HI10 := Lib.hid hi10
    clear hi10
    go_wp2_with fail
    refine (HP9.out w9 HB9.out (HT.out _ HK9.out)).mono ?_
    rintro e w10 ⟨rfl, hr10, hk10⟩
    clear a0' a1' a2'
    have HK10 := Lib.hid (HK9.out.trans hk10)
    have hS10 := HS9.out.kept (S := fun k => k ≠ B) (show b ≠ B from Nat.ne_of_gt HBB.out) hk10
    have hR10 := HR9.out.kept (S := fun k => k ≠ B) (show b + 1 + 1 ≠ B by have := HBB.out; omega) hk10
    have hA10 := HA9.out.kept (S := fun k => k ≠ B) (show b + 1 ≠ B by have := HBB.out; omega) hk10
    have HB10 := Lib.hid hr10
    have a0 := hA10.cell 0
    have a1 := hA10.cell 1
    have a2 := hA10.cell 2
    simp only [List.getElem?_toArray, List.getElem?_cons_zero, List.getElem?_cons_succ] at a0 a1 a2
    clear hk10 hr10 hA10
    go_upto_region 8 with fail
    go_wp2_with (refine wpList_load_row rfl 80 (.tmp 4) rfl b rfl 80 SA (0, 0) _ hS10 Tryd.underlying80 rfl HZ.out.1 ?_)
    refine (lf_Play HI.out HSA.out hcl he w10).mono ?_
    rintro e w11 ⟨SB, ⟨hSB, rfl⟩, hb11⟩
    have HSB := Lib.hid hSB
    have HZB : Hid ((Tryd.prog.info? 80).map (·.size) = some SB.size ∧ SB.size = 24 ∧ SB.all (·.oneCell') = true) := Lib.hid (by rw [hSB]; exact ⟨size_rst, rfl, one_cells _⟩)
    clear hSB
    have hS11 := hS10.below hS10.lt hb11
    have HR11 := Lib.hid (hR10.below hR10.lt hb11)
    have HB11 := Lib.hid (HB10.out.below HB10.out.lt hb11)
    have HK11 := Lib.hid (HK10.out.trans (Kept.of_below hb11))
    clear hS10 hR10 hb11 a0 a1 a2
    go_upto_region 22 with (refine wpList_store_row rfl 80 (.tmp 4) (.tmp 32) rfl b SB rfl rfl 80 _ hS11 HZB.out.1 (by rw [HZB.out.2.1, HZ.out.2.1]) HZB.out.2.2 ?_)
    have hb12 : Below b w11 (w11.setRow b SB) := below_setRow (Below.refl b w11) (Nat.le_refl _) SB
    have HS12 : Hid (Row (w11.setRow b SB) b 80 SB) := Lib.hid (setRow_heap _ _ _ _ _ _ hS11)
    have HR12 := Lib.hid (setRow_other HR11.out (show b + 1 + 1 ≠ b by omega) SB)
    have HB12 := Lib.hid (HB11.out.below HBB.out hb12)
    have HK12 := Lib.hid (HK11.out.go hb12 HW.out)
    clear hS11 hb12
    generalize w11.setRow b SB = w12 at *
    have HAG := Lib.hid (fun (W : World) (hb : Below w12.heap.size w12 W) => law_agrees HD.out HI10.out (HB12.out.below HB12.out.lt hb) (HT.out _ (HK12.out.trans (Kept.of_below hb))) HSB.out)
    refine wp_region_reliesT (ChF [.agg SB, .int .i64 (er : Int), .int .i64 (er : Int), .bool true, .bool true, .pointer (some ⟨B, 0, none⟩), .agg SB, .bool true, .bool true, undef, .bool true] [9] [] (StS w b B SB t)) (fun _ => true) (by kernel_rfl) (by kernel_rfl) (by kernel_rfl) (by kernel_rfl) (ChF.start ⟨HK12.out.drew, HS12.out.below HS12.out.lt (Below.refl _ _).drew, HB12.out.below HB12.out.lt (Below.refl _ _).drew, HR12.out.below HR12.out.lt (Below.refl _ _).drew⟩) ?obls ?fini
    case obls =>
      refine ⟨⟨?_, ?_⟩, ⟨?_, ?_⟩, ⟨?_, ?_⟩, ⟨?_, ?_⟩, ⟨?_, ?_⟩, ⟨?_, ?_⟩, ⟨?_, ?_⟩, ⟨?_, ?_⟩, ⟨?_, ?_⟩, ⟨?_, ?_⟩, ⟨?_, ?_⟩, trivial⟩
      · rfl
      · rintro ρ f W ⟨vs, us, hX⟩ hfi hw hcl hf
        have f4 : ρ (.tmp 4) = .pointer (some ⟨b, 0, none⟩) := hf.1 4 (by simp [Op.operands])
        exact ok_value (v := .agg SB) (w' := W) (exec_load_row 80 (.tmp 4) rfl b f4 hX.st.2.1 Tryd.underlying80 rfl HZB.out.1) (hX.pure 0 _ (by decide) (by decide) rfl hX.st)
      · rfl
      · rintro ρ f W ⟨vs, us, hX⟩ hfi hw hcl hf
        have f8 : ρ (.tmp 8) = .int .i64 (er : Int) := hf.1 8 (by simp [Op.operands])
        exact ok_value (v := .int .i64 (er : Int)) (w' := W) (by simp [execOp, f8]) (hX.pure 1 _ (by decide) (by decide) rfl hX.st)
      · rfl
      · rintro ρ f W ⟨vs, us, hX⟩ hfi hw hcl hf
        have f9 : ρ (.tmp 9) = .int .i64 (er : Int) := hf.1 9 (by simp [Op.operands])
        exact ok_value (v := .int .i64 (er : Int)) (w' := W) (by simp [execOp, f9]) (hX.pure 2 _ (by decide) (by decide) rfl hX.st)
      · rfl
      · rintro ρ f W ⟨vs, us, hX⟩ hfi hw hcl hf
        have f99 : ρ (.tmp 99) = .int .i64 (er : Int) := hX.val 1 _ _ (by decide) (by decide) (hf.1 99 (by simp [Op.operands])) rfl
        have f100 : ρ (.tmp 100) = .int .i64 (er : Int) := hX.val 2 _ _ (by decide) (by decide) (hf.1 100 (by simp [Op.operands])) rfl
        exact ok_value (v := .bool true) (w' := W) (by simp [execOp, f99, f100, go_sem]) (hX.pure 3 _ (by decide) (by decide) rfl hX.st)
      · rfl
      · rintro ρ f W ⟨vs, us, hX⟩ hfi hw hcl hf
        have f101 : ρ (.tmp 101) = .bool true := hX.val 3 _ _ (by decide) (by decide) (hf.1 101 (by simp [Op.operands])) rfl
        exact ok_value (v := .bool true) (w' := W) (by simp [execOp, f101]) (hX.pure 4 _ (by decide) (by decide) rfl hX.st)
      · rintro f W v ⟨vs, us, hX⟩ hv
        exact hX.val 4 _ _ (by decide) (by decide) hv rfl
      · rintro ρ f W ⟨vs, us, hX⟩ hfi hw hcl hf
        have f0 : ρ (.tmp 0) = .pointer (some ⟨B, 0, none⟩) := hf.1 0 (by simp [Op.operands])
        exact ok_value (v := .pointer (some ⟨B, 0, none⟩)) (w' := W) (by simp [execOp, f0]) (hX.pure 5 _ (by decide) (by decide) rfl hX.st)
      · rintro f W v ⟨vs, us, hX⟩ hv
        exact hX.val 4 _ _ (by decide) (by decide) hv rfl
      · rintro ρ f W ⟨vs, us, hX⟩ hfi hw hcl hf
        have f4 : ρ (.tmp 4) = .pointer (some ⟨b, 0, none⟩) := hf.1 4 (by simp [Op.operands])
        exact ok_value (v := .agg SB) (w' := W) (exec_load_row 80 (.tmp 4) rfl b f4 hX.st.2.1 Tryd.underlying80 rfl HZB.out.1) (hX.pure 6 _ (by decide) (by decide) rfl hX.st)
      · rintro f W v ⟨vs, us, hX⟩ hv
        exact hX.val 4 _ _ (by decide) (by decide) hv rfl
      · rintro ρ f W ⟨vs, us, hX⟩ hfi hw hcl hf
        have f103 : ρ (.tmp 103) = .pointer (some ⟨B, 0, none⟩) := hX.val 5 _ _ (by decide) (by decide) (hf.1 103 (by simp [Op.operands, Call.operands])) rfl
        have f104 : ρ (.tmp 104) = .agg SB := hX.val 6 _ _ (by decide) (by decide) (hf.1 104 (by simp [Op.operands, Call.operands])) rfl
        refine ok_call (f := 37) (args := #[.pointer (some ⟨B, 0, none⟩), .agg SB]) (by simp [execOp, f103, f104, hf.2.2.2, go_sem]) ?_
        refine (law_agrees HD.out HI10.out hX.st.2.2.1 (HT.out _ hX.st.1) HSB.out).mono ?_
        rintro e w5 ⟨rfl, hb5⟩
        exact ⟨_, rfl, hX.pure 7 _ (by decide) (by decide) rfl (StS.below hX.st hb5)⟩
      · rfl
      · rintro ρ f W ⟨vs, us, hX⟩ hfi hw hcl hf
        have f102 : ρ (.tmp 102) = .bool true := hX.val 4 _ _ (by decide) (by decide) (hf.1 102 (by simp [Op.operands])) rfl
        have f105 : ρ (.tmp 105) = .bool true := hX.val 7 _ _ (by decide) (by decide) (hf.1 105 (by simp [Op.operands])) rfl
        exact ok_value (v := .bool true) (w' := W) (by simp [execOp, f102, f105, hf.2.1, go_sem]) (hX.pure 8 _ (by decide) (by decide) rfl hX.st)
      · rfl
      · rintro ρ f W ⟨vs, us, hX⟩ hfi hw hcl hf
        have f6 : ρ (.tmp 6) = .pointer (some ⟨b + 1 + 1, 0, none⟩) := hf.1 6 (by simp [Op.operands])
        have f98 : ρ (.tmp 98) = .agg SB := hX.val 0 _ _ (by decide) (by decide) (hf.1 98 (by simp [Op.operands])) rfl
        have hl := hX.le1 0 9 rfl hfi
        obtain rfl := list0 hl
        obtain ⟨hk1, hs1, ht1, hr1⟩ := hX.st
        have hb5 := below_setRow (Below.refl (b + 1 + 1) W) (Nat.le_refl _) SB
        exact ok_skip (exec_store_row 80 (.tmp 6) (.tmp 98) rfl (b + 1 + 1) SB f6 f98 hr1 HZB.out.1 (by rw [HZB.out.2.1]; rfl) HZB.out.2.2) (hX.step1 9 _ rfl (by decide) (by decide) ⟨hk1.go hb5 (by have := HW.out; omega), hs1.below (by omega) hb5, ht1.below (by have := HBB.out; omega) hb5, setRow_heap _ _ _ _ _ _ hr1⟩)
      · rfl
      · rintro ρ f W ⟨vs, us, hX⟩ hfi hw hcl hf
        have f106 : ρ (.tmp 106) = .bool true := hX.val 8 _ _ (by decide) (by decide) (hf.1 106 (by simp [Op.operands])) rfl
        exact ok_value (v := .bool true) (w' := W) (by simp [execOp, f106]) (hX.pure 10 _ (by decide) (by decide) rfl hX.st)
    case fini =>
      rintro us w13 hlen ⟨vs, us', hX⟩
      have hl0 : us.length = 11 := hlen
      match us, hl0 with
      | [y0, y1, y2, y3, y4, y5, y6, y7, y8, y9, y10], _ =>
        have hst := hX.st
        have hvs := list1 hX.l1 (hX.get1 0 9 rfl (v := y9) rfl)
        have hy : y10 = .bool true := hX.val 10 _ _ (by decide) (by decide) rfl rfl
        subst hy
        rw [hvs] at hst
        obtain ⟨hK13, hS13, hB13, hR13⟩ := hst
        have HK13 := Lib.hid hK13
        have HB13 := Lib.hid hB13
        have HR13 := Lib.hid hR13
        clear hX hvs hK13 hB13 hR13 hS13 hlen
        simp only [putAll, List.zip_cons_cons, List.zip_nil_right, List.foldl_cons, List.foldl_nil]
        simp only [Act.put, List.setIfInBounds_toArray, List.set_cons_succ, List.set_cons_zero]
        go_wp2_with fail
        refine bodyPost_ret (v := .tuple #[.agg SB, .bool true]) (results_cellt Tryd.results38 _ _ (b + 1 + 1) _ SB (0, 0) _ rfl HR13.out Tryd.underlying80 rfl HZB.out.1) rfl ?_
        exact ⟨HTS.out ▸ HI10.out, by rw [HSB.out, HTS.out], HTS.out ▸ HB13.out, HK13.out⟩
  · have h3I : ¬ (q : Int) < 3 := by omega
    rw [if_neg h3] at hts
    obtain ⟨t, er, he⟩ : ∃ t er, s.playV a.card = (t, er) := ⟨_, _, rfl⟩
    rw [he] at hts
    have HTS : Hid (t = stepS s a) := Lib.hid hts.symm
    clear hts
    clear h3
    have HK9 := HK1
    have HS9 := HS1
    have HR9 := HR1
    have HA9 := HA1
    have HB9 := HB1
    have HP9 := Lib.hid (fun (W : World) (h1 : TblAt W B s) (h2 : Tab W) => tb_Play HD.out HI.out h1 h2 a.card)
    have hi10 := HI.out.play HD.out a.card
    simp only [he] at HP9 hi10
    have HI10 := Lib.hid hi10
    clear hi10
    go_wp2_with fail
    refine (HP9.out w1 HB9.out (HT.out _ HK9.out)).mono ?_
    rintro e w10 ⟨rfl, hr10, hk10⟩
    clear a0 a1 a2
    have HK10 := Lib.hid (HK9.out.trans hk10)
    have hS10 := HS9.out.kept (S := fun k => k ≠ B) (show b ≠ B from Nat.ne_of_gt HBB.out) hk10
    have hR10 := HR9.out.kept (S := fun k => k ≠ B) (show b + 1 + 1 ≠ B by have := HBB.out; omega) hk10
    have hA10 := HA9.out.kept (S := fun k => k ≠ B) (show b + 1 ≠ B by have := HBB.out; omega) hk10
    have HB10 := Lib.hid hr10
    have a0 := hA10.cell 0
    have a1 := hA10.cell 1
    have a2 := hA10.cell 2
    simp only [List.getElem?_toArray, List.getElem?_cons_zero, List.getElem?_cons_succ] at a0 a1 a2
    clear hk10 hr10 hA10
    go_upto_region 8 with fail
    go_wp2_with (refine wpList_load_row rfl 80 (.tmp 4) rfl b rfl 80 SA (0, 0) _ hS10 Tryd.underlying80 rfl HZ.out.1 ?_)
    refine (lf_Play HI.out HSA.out hcd he w10).mono ?_
    rintro e w11 ⟨SB, ⟨hSB, rfl⟩, hb11⟩
    have HSB := Lib.hid hSB
    have HZB : Hid ((Tryd.prog.info? 80).map (·.size) = some SB.size ∧ SB.size = 24 ∧ SB.all (·.oneCell') = true) := Lib.hid (by rw [hSB]; exact ⟨size_rst, rfl, one_cells _⟩)
    clear hSB
    have hS11 := hS10.below hS10.lt hb11
    have HR11 := Lib.hid (hR10.below hR10.lt hb11)
    have HB11 := Lib.hid (HB10.out.below HB10.out.lt hb11)
    have HK11 := Lib.hid (HK10.out.trans (Kept.of_below hb11))
    clear hS10 hR10 hb11 a0 a1 a2
    go_upto_region 22 with (refine wpList_store_row rfl 80 (.tmp 4) (.tmp 32) rfl b SB rfl rfl 80 _ hS11 HZB.out.1 (by rw [HZB.out.2.1, HZ.out.2.1]) HZB.out.2.2 ?_)
    have hb12 : Below b w11 (w11.setRow b SB) := below_setRow (Below.refl b w11) (Nat.le_refl _) SB
    have HS12 : Hid (Row (w11.setRow b SB) b 80 SB) := Lib.hid (setRow_heap _ _ _ _ _ _ hS11)
    have HR12 := Lib.hid (setRow_other HR11.out (show b + 1 + 1 ≠ b by omega) SB)
    have HB12 := Lib.hid (HB11.out.below HBB.out hb12)
    have HK12 := Lib.hid (HK11.out.go hb12 HW.out)
    clear hS11 hb12
    generalize w11.setRow b SB = w12 at *
    have HAG := Lib.hid (fun (W : World) (hb : Below w12.heap.size w12 W) => law_agrees HD.out HI10.out (HB12.out.below HB12.out.lt hb) (HT.out _ (HK12.out.trans (Kept.of_below hb))) HSB.out)
    refine wp_region_reliesT (ChF [.agg SB, .int .i64 (er : Int), .int .i64 (er : Int), .bool true, .bool true, .pointer (some ⟨B, 0, none⟩), .agg SB, .bool true, .bool true, undef, .bool true] [9] [] (StS w b B SB t)) (fun _ => true) (by kernel_rfl) (by kernel_rfl) (by kernel_rfl) (by kernel_rfl) (ChF.start ⟨HK12.out.drew, HS12.out.below HS12.out.lt (Below.refl _ _).drew, HB12.out.below HB12.out.lt (Below.refl _ _).drew, HR12.out.below HR12.out.lt (Below.refl _ _).drew⟩) ?obls ?fini
    case obls =>
      refine ⟨⟨?_, ?_⟩, ⟨?_, ?_⟩, ⟨?_, ?_⟩, ⟨?_, ?_⟩, ⟨?_, ?_⟩, ⟨?_, ?_⟩, ⟨?_, ?_⟩, ⟨?_, ?_⟩, ⟨?_, ?_⟩, ⟨?_, ?_⟩, ⟨?_, ?_⟩, trivial⟩
      · rfl
      · rintro ρ f W ⟨vs, us, hX⟩ hfi hw hcl hf
        have f4 : ρ (.tmp 4) = .pointer (some ⟨b, 0, none⟩) := hf.1 4 (by simp [Op.operands])
        exact ok_value (v := .agg SB) (w' := W) (exec_load_row 80 (.tmp 4) rfl b f4 hX.st.2.1 Tryd.underlying80 rfl HZB.out.1) (hX.pure 0 _ (by decide) (by decide) rfl hX.st)
      · rfl
      · rintro ρ f W ⟨vs, us, hX⟩ hfi hw hcl hf
        have f8 : ρ (.tmp 8) = .int .i64 (er : Int) := hf.1 8 (by simp [Op.operands])
        exact ok_value (v := .int .i64 (er : Int)) (w' := W) (by simp [execOp, f8]) (hX.pure 1 _ (by decide) (by decide) rfl hX.st)
      · rfl
      · rintro ρ f W ⟨vs, us, hX⟩ hfi hw hcl hf
        have f9 : ρ (.tmp 9) = .int .i64 (er : Int) := hf.1 9 (by simp [Op.operands])
        exact ok_value (v := .int .i64 (er : Int)) (w' := W) (by simp [execOp, f9]) (hX.pure 2 _ (by decide) (by decide) rfl hX.st)
      · rfl
      · rintro ρ f W ⟨vs, us, hX⟩ hfi hw hcl hf
        have f99 : ρ (.tmp 99) = .int .i64 (er : Int) := hX.val 1 _ _ (by decide) (by decide) (hf.1 99 (by simp [Op.operands])) rfl
        have f100 : ρ (.tmp 100) = .int .i64 (er : Int) := hX.val 2 _ _ (by decide) (by decide) (hf.1 100 (by simp [Op.operands])) rfl
        exact ok_value (v := .bool true) (w' := W) (by simp [execOp, f99, f100, go_sem]) (hX.pure 3 _ (by decide) (by decide) rfl hX.st)
      · rfl
      · rintro ρ f W ⟨vs, us, hX⟩ hfi hw hcl hf
        have f101 : ρ (.tmp 101) = .bool true := hX.val 3 _ _ (by decide) (by decide) (hf.1 101 (by simp [Op.operands])) rfl
        exact ok_value (v := .bool true) (w' := W) (by simp [execOp, f101]) (hX.pure 4 _ (by decide) (by decide) rfl hX.st)
      · rintro f W v ⟨vs, us, hX⟩ hv
        exact hX.val 4 _ _ (by decide) (by decide) hv rfl
      · rintro ρ f W ⟨vs, us, hX⟩ hfi hw hcl hf
        have f0 : ρ (.tmp 0) = .pointer (some ⟨B, 0, none⟩) := hf.1 0 (by simp [Op.operands])
        exact ok_value (v := .pointer (some ⟨B, 0, none⟩)) (w' := W) (by simp [execOp, f0]) (hX.pure 5 _ (by decide) (by decide) rfl hX.st)
      · rintro f W v ⟨vs, us, hX⟩ hv
        exact hX.val 4 _ _ (by decide) (by decide) hv rfl
      · rintro ρ f W ⟨vs, us, hX⟩ hfi hw hcl hf
        have f4 : ρ (.tmp 4) = .pointer (some ⟨b, 0, none⟩) := hf.1 4 (by simp [Op.operands])
        exact ok_value (v := .agg SB) (w' := W) (exec_load_row 80 (.tmp 4) rfl b f4 hX.st.2.1 Tryd.underlying80 rfl HZB.out.1) (hX.pure 6 _ (by decide) (by decide) rfl hX.st)
      · rintro f W v ⟨vs, us, hX⟩ hv
        exact hX.val 4 _ _ (by decide) (by decide) hv rfl
      · rintro ρ f W ⟨vs, us, hX⟩ hfi hw hcl hf
        have f103 : ρ (.tmp 103) = .pointer (some ⟨B, 0, none⟩) := hX.val 5 _ _ (by decide) (by decide) (hf.1 103 (by simp [Op.operands, Call.operands])) rfl
        have f104 : ρ (.tmp 104) = .agg SB := hX.val 6 _ _ (by decide) (by decide) (hf.1 104 (by simp [Op.operands, Call.operands])) rfl
        refine ok_call (f := 37) (args := #[.pointer (some ⟨B, 0, none⟩), .agg SB]) (by simp [execOp, f103, f104, hf.2.2.2, go_sem]) ?_
        refine (law_agrees HD.out HI10.out hX.st.2.2.1 (HT.out _ hX.st.1) HSB.out).mono ?_
        rintro e w5 ⟨rfl, hb5⟩
        exact ⟨_, rfl, hX.pure 7 _ (by decide) (by decide) rfl (StS.below hX.st hb5)⟩
      · rfl
      · rintro ρ f W ⟨vs, us, hX⟩ hfi hw hcl hf
        have f102 : ρ (.tmp 102) = .bool true := hX.val 4 _ _ (by decide) (by decide) (hf.1 102 (by simp [Op.operands])) rfl
        have f105 : ρ (.tmp 105) = .bool true := hX.val 7 _ _ (by decide) (by decide) (hf.1 105 (by simp [Op.operands])) rfl
        exact ok_value (v := .bool true) (w' := W) (by simp [execOp, f102, f105, hf.2.1, go_sem]) (hX.pure 8 _ (by decide) (by decide) rfl hX.st)
      · rfl
      · rintro ρ f W ⟨vs, us, hX⟩ hfi hw hcl hf
        have f6 : ρ (.tmp 6) = .pointer (some ⟨b + 1 + 1, 0, none⟩) := hf.1 6 (by simp [Op.operands])
        have f98 : ρ (.tmp 98) = .agg SB := hX.val 0 _ _ (by decide) (by decide) (hf.1 98 (by simp [Op.operands])) rfl
        have hl := hX.le1 0 9 rfl hfi
        obtain rfl := list0 hl
        obtain ⟨hk1, hs1, ht1, hr1⟩ := hX.st
        have hb5 := below_setRow (Below.refl (b + 1 + 1) W) (Nat.le_refl _) SB
        exact ok_skip (exec_store_row 80 (.tmp 6) (.tmp 98) rfl (b + 1 + 1) SB f6 f98 hr1 HZB.out.1 (by rw [HZB.out.2.1]; rfl) HZB.out.2.2) (hX.step1 9 _ rfl (by decide) (by decide) ⟨hk1.go hb5 (by have := HW.out; omega), hs1.below (by omega) hb5, ht1.below (by have := HBB.out; omega) hb5, setRow_heap _ _ _ _ _ _ hr1⟩)
      · rfl
      · rintro ρ f W ⟨vs, us, hX⟩ hfi hw hcl hf
        have f106 : ρ (.tmp 106) = .bool true := hX.val 8 _ _ (by decide) (by decide) (hf.1 106 (by simp [Op.operands])) rfl
        exact ok_value (v := .bool true) (w' := W) (by simp [execOp, f106]) (hX.pure 10 _ (by decide) (by decide) rfl hX.st)
    case fini =>
      rintro us w13 hlen ⟨vs, us', hX⟩
      have hl0 : us.length = 11 := hlen
      match us, hl0 with
      | [y0, y1, y2, y3, y4, y5, y6, y7, y8, y9, y10], _ =>
        have hst := hX.st
        have hvs := list1 hX.l1 (hX.get1 0 9 rfl (v := y9) rfl)
        have hy : y10 = .bool true := hX.val 10 _ _ (by decide) (by decide) rfl rfl
        subst hy
        rw [hvs] at hst
        obtain ⟨hK13, hS13, hB13, hR13⟩ := hst
        have HK13 := Lib.hid hK13
        have HB13 := Lib.hid hB13
        have HR13 := Lib.hid hR13
        clear hX hvs hK13 hB13 hR13 hS13 hlen
        simp only [putAll, List.zip_cons_cons, List.zip_nil_right, List.foldl_cons, List.foldl_nil]
        simp only [Act.put, List.setIfInBounds_toArray, List.set_cons_succ, List.set_cons_zero]
        go_wp2_with fail
        refine bodyPost_ret (v := .tuple #[.agg SB, .bool true]) (results_cellt Tryd.results38 _ _ (b + 1 + 1) _ SB (0, 0) _ rfl HR13.out Tryd.underlying80 rfl HZB.out.1) rfl ?_
        exact ⟨HTS.out ▸ HI10.out, by rw [HSB.out, HTS.out], HTS.out ▸ HB13.out, HK13.out⟩
/-- .. with the state named ahead -/
theorem law_stepV {d : Nat → Nat} {n : Nat} {s : St} {w : World} {B : Nat} {a : AcT} (hd : Deal4 d n) (hi : SInv d n s) (ha : a.ok) (hA : TblAt w B s) (hT : Tab w) {SA SB : Array Value} (hSA : SA = s.cells) (hSB : SB = (stepS s a).cells) :
    Calls Tryd.prog 38 #[.pointer (some ⟨B, 0, none⟩), .agg SA, .agg a.cells] w fun e w' => e = .returned (.tuple #[.agg SB, .bool true]) ∧ TblAt w' B (stepS s a) ∧ Kept (fun k => k ≠ B) w w' := by
  refine (law_step hd hi ha hA hT hSA).mono ?_
  rintro e w' ⟨t, rfl, -, SC, rfl, rfl, h1, h2⟩
  exact ⟨by rw [hSB], h1, h2⟩
theorem SInv.stepS {d : Nat → Nat} {n : Nat} {s : St} (hd : Deal4 d n) (hi : SInv d n s) (a : AcT) : SInv d n (stepS s a) := by
  unfold Go.Proofs.YtgnlmodaekfhfaaDoor.stepS
  split
  · exact hi.lead hd _ _
  split
  · exact hi.lead hd _ _
  split
  · exact hi.choose hd _
  split
  · exact hi.demand _ _
  · exact hi.play hd _
end Go.Proofs.YtgnlmodaekfhfaaDoor
