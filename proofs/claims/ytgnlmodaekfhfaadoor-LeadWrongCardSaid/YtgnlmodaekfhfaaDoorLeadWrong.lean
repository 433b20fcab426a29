/- finesselaw14.LeadWrong over this seat's program. -/
import Derived.Test.YtgnlmodaekfhfaaDoorLdWp
import Derived.Deep.Cut
import Derived.Deep.CutRange
namespace Go.Proofs.YtgnlmodaekfhfaaDoor
open Go.RowKit Go.Shelf Go.Sort

attribute [-go_sem] run_equalIn_agg run_eql_struct
theorem tbl_below {w w' : World} {B : Nat} {s : St} (hk : Kept (fun k => k ≠ B) w w') (h : TblAt w B s) (h' : TblAt w' B s) : Below w.heap.size w w' :=
  ⟨hk.os, hk.tape, hk.output, hk.size, fun i hi => by
    by_cases e : i = B
    · subst e; exact h'.trans h.symm
    · exact hk.block i e hi⟩
theorem quiet_row_g {P : Program} {ops : Array Oper} {C : World → Prop} {Q : Act → Prop} {a : Act} {o : Oper} {rest : List Oper} (hw : Region.wanted o (yielded ops a.tmps) = true) (ty : TypeId) (x : Operand) (ho : o.op = .load ty x) (g : Nat) (hx : a.eval x = .pointer (some ⟨g, 0, none⟩)) {t : TypeId} {cs : Array Value} {d : TypeDesc}
    (hg : ∀ w', C w' → Row w' g t cs) (hu : P.underlying ty = some d) (hd : (match d with | .struct _ | .array _ _ => true | _ => false) = true) (hi : (P.info? ty).map (·.size) = some cs.size) (h : wpQuiet P ops C Q rest (a.put o.dst (.agg cs))) : wpQuiet P ops C Q (o :: rest) a := by
  refine BigFrame.wpQuiet_want hw fun K hK => ⟨.agg cs, fun w hw => ?_, hK _ h⟩
  unfold Oper.quietAt
  rw [exec_load_row ty x ho g hx (hg w hw) hu hd hi]
  exact ⟨rfl, rfl⟩
theorem same_self (s : St) : s.same s = true := by unfold St.same; simp
theorem eql_self (s : St) {SA : Array Value} (h : SA = s.cells) (w : World) : Sem.run Tryd.prog (binOp .eql 45 (.agg SA) (.agg SA)) w = .ok (.bool true) w := by
  rw [run_eql_struct, h, eq_state, same_self, Result.andThen_ok]
section
variable {d : Nat → Nat} {n : Nat} {s : St} {w : World} {B : Nat}
theorem tn_Play (hd : Deal4 d n) (hi : SInv d n s) (hA : TblAt w B s) (hT : Tab w) {c e : Nat} (he : s.playV c = (s, e)) :
    Calls Tryd.prog 16 #[.pointer (some ⟨B, 0, none⟩), .int .u8 (c : Int)] w fun r w' => r = .returned (.int .i64 (e : Int)) ∧ Below w.heap.size w w' :=
  (tq_Play hd hi hA hT he).mono fun _ _ ⟨h1, h2, h3⟩ => ⟨h1, tbl_below h3 hA h2⟩
theorem tn_Lead (hd : Deal4 d n) (hi : SInv d n s) (hA : TblAt w B s) (hT : Tab w) {seat c e : Nat} (hse : seat < 256) (he : s.leadV seat c = (s, e)) :
    Calls Tryd.prog 15 #[.pointer (some ⟨B, 0, none⟩), .int .u8 (seat : Int), .int .u8 (c : Int)] w fun r w' => r = .returned (.int .i64 (e : Int)) ∧ Below w.heap.size w w' :=
  (tq_Lead hd hi hA hT hse he).mono fun _ _ ⟨h1, h2, h3⟩ => ⟨h1, tbl_below h3 hA h2⟩
end
theorem wrap_u8_add5 {x : Nat} (h : x ≤ 9) : IntKind.u8.wrap (x : Int) = (x : Int) := by rw [IntKind.wrap_u8]; omega
/-- the six deals in a row -/
abbrev sixA (e l t d : Nat → Nat) : Array Value := #[.int .u64 (e 0 : Int), .int .u64 (e 1 : Int), .int .u64 (e 2 : Int), .int .u64 (e 3 : Int), .int .u64 (l 0 : Int), .int .u64 (l 1 : Int), .int .u64 (l 2 : Int), .int .u64 (l 3 : Int), .int .u64 (t 0 : Int), .int .u64 (t 1 : Int), .int .u64 (t 2 : Int), .int .u64 (t 3 : Int), .int .u64 (d 0 : Int), .int .u64 (d 1 : Int), .int .u64 (d 2 : Int), .int .u64 (d 3 : Int), .int .u64 (d 0 : Int), .int .u64 (d 1 : Int), .int .u64 (d 2 : Int), .int .u64 (d 3 : Int), .int .u64 0, .int .u64 0, .int .u64 0, .int .u64 0]
set_option maxHeartbeats 4000000 in
set_option maxRecDepth 10000 in
theorem law_LeadWrong (x : Sk) (ao : Option Addr) (lo co : Nat) (c seat : Nat) (w : World) (hx0 : x.size < 256) (hx1 : x.trumps < 256) (hx2 : x.decl < 256) (hz : Byt w ao lo x.order) (hb1 : c < 256) (hb2 : seat < 256) (hT : Tab w) :
    Calls Tryd.prog 4 #[.agg (x.cells ao lo co), .int .u8 (c : Int), .int .u8 (seat : Int)] w fun e w' => e = .returned (.bool true) ∧ Below w.heap.size w w' := by
  have HT0 := Lib.hid hT
  have hd := x.deal
  have HMK := Lib.hid (fun (W : World) (hb : Below w.heap.size w W) => law_Made x ao lo co W (hz.below (Nat.le_refl _) hb) hx0 hx1 hx2)
  obtain ⟨tm, htm⟩ : ∃ tm, x.trumps % 5 = tm := ⟨_, rfl⟩
  obtain ⟨dc, hdc⟩ : ∃ dc, x.decl % 4 = dc := ⟨_, rfl⟩
  have htm4 : tm ≤ 4 := by omega
  have hdc4 : dc < 4 := by omega
  rw [htm, hdc] at HMK
  have hnle := x.n_le.2
  have hw64 := x.w64
  generalize x.h = d at *
  generalize x.n = n at *
  have HD := Lib.hid hd
  have HW64 := Lib.hid (fun (i : Nat) (hi : i < 4) => w64_52 (hd.lt i hi))
  obtain ⟨DA, hDA⟩ : ∃ DA, DA = arr4 d := ⟨_, rfl⟩
  have HDA := Lib.hid hDA
  have HDZ : Hid ((Tryd.prog.info? 29).map (·.size) = some DA.size ∧ DA.size = 4 ∧ DA.all (·.oneCell') = true) := Lib.hid (by rw [hDA]; exact ⟨size_deal14, rfl, by simp [arr4, Value.oneCell']⟩)
  rw [← hDA] at HMK
  obtain ⟨XC, hXC⟩ : ∃ XC, XC = x.cells ao lo co := ⟨_, rfl⟩
  have HXZ : Hid ((Tryd.prog.info? 24).map (·.size) = some XC.size) := Lib.hid (by rw [hXC]; exact size_sk14)
  rw [← hXC] at HMK ⊢
  clear hXC hDA hT hz htm hdc hd
  have HW6 := Lib.hid hw64
  have HNW := Lib.hid (fun W => ld_New_ok HD.out hw64 tm dc htm4 (by omega) W)
  have i0 := SInv.new HD.out (tm := tm) (dc := dc) htm4 hdc4
  obtain ⟨S0, hS0⟩ : ∃ S0, St.new d tm dc = S0 := ⟨_, rfl⟩
  obtain ⟨p, hp⟩ : ∃ p, seat % 4 = p := ⟨_, rfl⟩
  have hp4 : p < 4 := by omega
  obtain ⟨p', hp'⟩ : ∃ p', (p + 1) % 4 = p' := ⟨_, rfl⟩
  have hp4' : p' < 4 := by omega
  obtain ⟨r, hr⟩ : ∃ r, c % 12 = r := ⟨_, rfl⟩
  have hr12 : r < 12 := by omega
  obtain ⟨L, hL⟩ : ∃ L, (dc + 1) % 4 = L := ⟨_, rfl⟩
  have hL4 : L < 4 := by omega
  have s1 : ((seat : Int)).tmod 4 = (p : Int) := by rw [Int.tmod_eq_emod_of_nonneg (by omega)]; omega
  have s2 : IntKind.u8.wrap (p : Int) = (p : Int) := by rw [IntKind.wrap_u8]; omega
  obtain ⟨y, hy⟩ : ∃ y, (seat + 1) % 256 = y := ⟨_, rfl⟩
  have s3 : IntKind.u8.wrap ((seat : Int) + 1) = (y : Int) := by rw [IntKind.wrap_u8]; omega
  have s3' : ((y : Int)).tmod 4 = (p' : Int) := by rw [Int.tmod_eq_emod_of_nonneg (by omega)]; omega
  have s4 : IntKind.u8.wrap (p' : Int) = (p' : Int) := by rw [IntKind.wrap_u8]; omega
  have r1 : ((c : Int)).tmod 12 = (r : Int) := by rw [Int.tmod_eq_emod_of_nonneg (by omega)]; omega
  have r2 : IntKind.u8.wrap (r : Int) = (r : Int) := by rw [IntKind.wrap_u8]; omega
  obtain ⟨v52, hv52⟩ : ∃ v, 52 + r = v := ⟨_, rfl⟩
  have r3 : IntKind.u8.wrap (52 + (r : Int)) = (v52 : Int) := by rw [IntKind.wrap_u8]; omega
  have l1 : IntKind.u8.wrap ((dc : Int) + 1) = (dc : Int) + 1 := by rw [IntKind.wrap_u8]; omega
  have l2 : ((dc : Int) + 1).tmod 4 = (L : Int) := by rw [Int.tmod_eq_emod_of_nonneg (by omega)]; omega
  have l3 : IntKind.u8.wrap (L : Int) = (L : Int) := by rw [IntKind.wrap_u8]; omega
  have hpI : (p : Int) < 4 := by omega
  have hpI' : (p' : Int) < 4 := by omega
  have hLI : (L : Int) < 4 := by omega
  have hSL : S0.turn = L ∧ S0.ld = L ∧ S0.opn = true ∧ S0.ct = 0 ∧ S0.pend = false ∧ S0.h = d := by
    rw [← hS0]
    exact ⟨by show ((dc + 1) % 4 + 0) % 4 = L; omega, hL, rfl, rfl, rfl, rfl⟩
  rw [hS0] at i0 HNW
  have HI0 := Lib.hid i0
  have HSL := Lib.hid hSL
  have be := bad_empty HD.out hp4
  have bt := bad_twice HD.out hp4
  have bl := bad_long (d := d) hp4 hr12
  rw [hp'] at bt
  rw [hv52] at bl
  have HHP := Lib.hid hp
  have hwp := hw64 p
  have hwp' := hw64 p'
  have w1' := W64.shl1 (v52)
  obtain ⟨E, hE⟩ : ∃ E, setH d p 0 = E := ⟨_, rfl⟩
  obtain ⟨G, hG⟩ : ∃ G, setH d p (lor (d p) (shl1 (v52))) = G := ⟨_, rfl⟩
  obtain ⟨T, hT'⟩ : ∃ T, setH d p (lor (d p) (d p')) = T := ⟨_, rfl⟩
  have wE : ∀ i, W64 (E i) := by rw [← hE]; exact W64.setH hw64 _ _ W64.zero
  have wG : ∀ i, W64 (G i) := by rw [← hG]; exact W64.setH hw64 _ _ ((hw64 p).lor (W64.shl1 _))
  have wT : ∀ i, W64 (T i) := by rw [← hT']; exact W64.setH hw64 _ _ ((hw64 p).lor (hw64 p'))
  rw [hE] at be
  rw [hG] at bl
  rw [hT'] at bt
  have HN0 := Lib.hid (fun W => ld_New_no wE tm dc (by omega) (by omega) (newOk_no (.inl be)) W)
  have HN1 := Lib.hid (fun W => ld_New_no wG tm dc (by omega) (by omega) (newOk_no (.inl bl)) W)
  have HN2 := Lib.hid (fun W => ld_New_no wT tm dc (by omega) (by omega) (newOk_no (.inl bt)) W)
  have HN3 := Lib.hid (fun W => ld_New_no hw64 (tm + 5) dc (by omega) (by omega) (newOk_no (.inr (.inl (by omega)))) W)
  have HN4 := Lib.hid (fun W => ld_New_no hw64 (tm + 5) (dc + 4) (by omega) (by omega) (newOk_no (.inr (.inl (by omega)))) W)
  have HN5 := Lib.hid (fun W => ld_New_no (d := fun _ => 0) (fun _ => W64.zero) (tm + 5) (dc + 4) (by omega) (by omega) (newOk_no (.inr (.inl (by omega)))) W)
  obtain ⟨t5, ht5⟩ : ∃ t, tm + 5 = t := ⟨_, rfl⟩
  obtain ⟨d4, hd4⟩ : ∃ t, dc + 4 = t := ⟨_, rfl⟩
  rw [ht5] at HN3 HN4 HN5
  rw [hd4] at HN4 HN5
  have wa5 : IntKind.u8.wrap ((tm : Int) + 5) = (t5 : Int) := by rw [IntKind.wrap_u8]; omega
  have wa4 : IntKind.u8.wrap ((dc : Int) + 4) = (d4 : Int) := by rw [IntKind.wrap_u8]; omega
  have wa0 : IntKind.u8.wrap (tm : Int) = (tm : Int) := by rw [IntKind.wrap_u8]; omega
  have wb0 : IntKind.u8.wrap (dc : Int) = (dc : Int) := by rw [IntKind.wrap_u8]; omega
  clear ht5 hd4
  have HE := Lib.hid hE
  have HG := Lib.hid hG
  have HTT := Lib.hid hT'
  clear hy hv52 hw64 hS0 hp hp' hr hL i0 hSL be bl bt hE hG hT' wE wG wT
  have hb0 := (Below.refl w.heap.size w).alloc (Nat.le_refl _) (.cells XC 24)
  have hx0' : Row (w.alloc (.cells XC 24)) w.heap.size 24 XC := Row.new _ _ _
  go_enter Tryd.func4, Tryd.ntmps4
  go_upto_region 1 with fail
  generalize w.alloc (.cells XC 24) = w0 at *
  obtain ⟨bx, hbx⟩ : ∃ bx, w.heap.size = bx := ⟨_, rfl⟩
  have HB0 := Lib.hid hb0
  have HX0 := Lib.hid hx0'
  rw [hbx] at HX0
  have HBX := Lib.hid hbx
  clear hb0 hx0'
  rw [hbx]
  clear hbx
  have HT1 := Lib.hid (HT0.out.below HT0.out.pos HB0.out)
  go_wp2_with fail
  refine (law_awake14 _ HT1.out).mono ?_
  rintro e w1 ⟨rfl, hb⟩
  have HB1 := Lib.hid (HB0.out.trans (hb.mono HB0.out.size))
  have HX1 := Lib.hid (HX0.out.below HX0.out.lt hb)
  clear hb
  go_wp2_with (refine wpList_load_row rfl 24 (.tmp 3) rfl bx rfl 24 XC (0, 0) _ HX1.out Tryd.underlying24 rfl HXZ.out ?_)
  refine (HMK.out w1 HB1.out).mono ?_
  rintro e w2 ⟨rfl, hb⟩
  have HB2 := Lib.hid (HB1.out.trans (hb.mono HB1.out.size))
  clear hb
  go_upto_region 4 with (refine wpList_store_row rfl 29 (.tmp 7) (.tmp 26) rfl w2.heap.size DA rfl rfl 29 _ (Row.new _ _ _) HDZ.out.1 (by rw [HDZ.out.2.1]; rfl) HDZ.out.2.2 ?_)
  have hb3 := below_setRow (HB2.out.alloc HB2.out.size (.cells #[.int .u64 0, .int .u64 0, .int .u64 0, .int .u64 0] 29)) HB2.out.size DA
  have hr3 : Row ((w2.alloc (.cells #[.int .u64 0, .int .u64 0, .int .u64 0, .int .u64 0] 29)).setRow w2.heap.size DA) w2.heap.size 29 DA := setRow_heap _ _ _ _ _ _ (Row.new _ _ _)
  generalize (w2.alloc (.cells #[.int .u64 0, .int .u64 0, .int .u64 0, .int .u64 0] 29)).setRow w2.heap.size DA = w3 at *
  obtain ⟨bd, hbd⟩ : ∃ bd, w2.heap.size = bd := ⟨_, rfl⟩
  have HBD : Hid (w.heap.size ≤ bd) := Lib.hid (by rw [← hbd]; exact HB2.out.size)
  rw [hbd] at hr3 ⊢
  have HB3 := Lib.hid hb3
  have HD3 := Lib.hid hr3
  have HT3 := Lib.hid (HT0.out.below HT0.out.pos HB3.out)
  clear hb3 hr3 hbd
  have q0 := HD3.out.cell 0
  have q1 := HD3.out.cell 1
  have q2 := HD3.out.cell 2
  have q3 := HD3.out.cell 3
  rw [HDA.out] at q0 q1 q2 q3
  simp only [List.getElem?_toArray, List.getElem?_cons_zero, List.getElem?_cons_succ] at q0 q1 q2 q3
  have qs : bd < w3.heap.size := HD3.out.lt
  have u0 : ∀ o, (w3.alloc o).cell? ⟨bd, 0, none⟩ = some (.int .u64 (d 0 : Int)) := fun o => ((HD3.out.alloc o).cell 0).trans (by rw [HDA.out]; rfl)
  have v0 : ∀ o1 o2, ((w3.alloc o1).alloc o2).cell? ⟨bd, 0, none⟩ = some (.int .u64 (d 0 : Int)) := fun o1 o2 => (((HD3.out.alloc o1).alloc o2).cell 0).trans (by rw [HDA.out]; rfl)
  have t0 : ∀ o1 o2 o3, (((w3.alloc o1).alloc o2).alloc o3).cell? ⟨bd, 0, none⟩ = some (.int .u64 (d 0 : Int)) := fun o1 o2 o3 => ((((HD3.out.alloc o1).alloc o2).alloc o3).cell 0).trans (by rw [HDA.out]; rfl)
  have u1 : ∀ o, (w3.alloc o).cell? ⟨bd, 1, none⟩ = some (.int .u64 (d 1 : Int)) := fun o => ((HD3.out.alloc o).cell 1).trans (by rw [HDA.out]; rfl)
  have v1 : ∀ o1 o2, ((w3.alloc o1).alloc o2).cell? ⟨bd, 1, none⟩ = some (.int .u64 (d 1 : Int)) := fun o1 o2 => (((HD3.out.alloc o1).alloc o2).cell 1).trans (by rw [HDA.out]; rfl)
  have t1 : ∀ o1 o2 o3, (((w3.alloc o1).alloc o2).alloc o3).cell? ⟨bd, 1, none⟩ = some (.int .u64 (d 1 : Int)) := fun o1 o2 o3 => ((((HD3.out.alloc o1).alloc o2).alloc o3).cell 1).trans (by rw [HDA.out]; rfl)
  have u2 : ∀ o, (w3.alloc o).cell? ⟨bd, 2, none⟩ = some (.int .u64 (d 2 : Int)) := fun o => ((HD3.out.alloc o).cell 2).trans (by rw [HDA.out]; rfl)
  have v2 : ∀ o1 o2, ((w3.alloc o1).alloc o2).cell? ⟨bd, 2, none⟩ = some (.int .u64 (d 2 : Int)) := fun o1 o2 => (((HD3.out.alloc o1).alloc o2).cell 2).trans (by rw [HDA.out]; rfl)
  have t2 : ∀ o1 o2 o3, (((w3.alloc o1).alloc o2).alloc o3).cell? ⟨bd, 2, none⟩ = some (.int .u64 (d 2 : Int)) := fun o1 o2 o3 => ((((HD3.out.alloc o1).alloc o2).alloc o3).cell 2).trans (by rw [HDA.out]; rfl)
  have u3 : ∀ o, (w3.alloc o).cell? ⟨bd, 3, none⟩ = some (.int .u64 (d 3 : Int)) := fun o => ((HD3.out.alloc o).cell 3).trans (by rw [HDA.out]; rfl)
  have v3 : ∀ o1 o2, ((w3.alloc o1).alloc o2).cell? ⟨bd, 3, none⟩ = some (.int .u64 (d 3 : Int)) := fun o1 o2 => (((HD3.out.alloc o1).alloc o2).cell 3).trans (by rw [HDA.out]; rfl)
  have t3 : ∀ o1 o2 o3, (((w3.alloc o1).alloc o2).alloc o3).cell? ⟨bd, 3, none⟩ = some (.int .u64 (d 3 : Int)) := fun o1 o2 o3 => ((((HD3.out.alloc o1).alloc o2).alloc o3).cell 3).trans (by rw [HDA.out]; rfl)
  obtain ⟨Z4, hZ4⟩ : ∃ Z4 : Array Value, Z4 = #[.int .u64 (d 0 : Int), .int .u64 (d 1 : Int), .int .u64 (d 2 : Int), .int .u64 (d 3 : Int)] := ⟨_, rfl⟩
  have n0 : Row (((w3.alloc (.cells Z4 29)).alloc (.cells Z4 29)).alloc (.cells Z4 29)) w3.heap.size 29 Z4 := ((Row.new w3 _ _).alloc _).alloc _
  have n1 : Row (((w3.alloc (.cells Z4 29)).alloc (.cells Z4 29)).alloc (.cells Z4 29)) (w3.heap.size + 1) 29 Z4 := (by have h := (Row.new (w3.alloc (.cells Z4 29)) 29 Z4).alloc (.cells Z4 29); rwa [World.size_alloc] at h)
  have n2 : Row (((w3.alloc (.cells Z4 29)).alloc (.cells Z4 29)).alloc (.cells Z4 29)) (w3.heap.size + 1 + 1) 29 Z4 := (by have h := Row.new ((w3.alloc (.cells Z4 29)).alloc (.cells Z4 29)) 29 Z4; rwa [World.size_alloc, World.size_alloc] at h)
  have nb : Below w3.heap.size w3 (((w3.alloc (.cells Z4 29)).alloc (.cells Z4 29)).alloc (.cells Z4 29)) := ((((Below.refl w3.heap.size w3).alloc (Nat.le_refl _) _).alloc (by simp) _).alloc (by simp; omega) _)
  rw [hZ4] at n0 n1 n2 nb
  have N0 := Lib.hid n0
  have N1 := Lib.hid n1
  have N2 := Lib.hid n2
  have NB := Lib.hid nb
  clear n0 n1 n2 nb hZ4
  go_cut [10, 11, 12] from 29 to 31 (fun v10 v11 v12 wx => ∃ b10 b11 b12, v10 = .pointer (some ⟨b10, 0, none⟩) ∧ v11 = .pointer (some ⟨b11, 0, none⟩) ∧ v12 = .pointer (some ⟨b12, 0, none⟩) ∧ Row wx b10 29 (arr4 d) ∧ Row wx b11 29 (arr4 d) ∧ Row wx b12 29 (arr4 d) ∧ (b10 ≠ b11 ∧ b10 ≠ b12 ∧ b11 ≠ b12) ∧ (w3.heap.size ≤ b10 ∧ w3.heap.size ≤ b11 ∧ w3.heap.size ≤ b12) ∧ Below w3.heap.size w3 wx)
  case first =>
    go_region
    all_goals go_wp2_with fail
    all_goals go_meet
    all_goals
      refine ⟨_, _, _, rfl, rfl, rfl, ?_, ?_, ?_, by omega, by omega, NB.out.drew⟩
      all_goals first | exact N0.out.later (Below.refl _ _).drew | exact N1.out.later (Below.refl _ _).drew | exact N2.out.later (Below.refl _ _).drew
  obtain ⟨b10, b11, b12, rfl, rfl, rfl, hr10, hr11, hr12, hne, hle, hbc⟩ := hcut
  clear q0 q1 q2 q3 u0 u1 u2 u3 v0 v1 v2 v3 t0 t1 t2 t3 N0 N1 N2 NB
  have HD4 := Lib.hid (HD3.out.below HD3.out.lt hbc)
  have HB4 := Lib.hid (HB3.out.trans (hbc.mono HB3.out.size))
  have HLE : Hid (w.heap.size ≤ b10 ∧ w.heap.size ≤ b11 ∧ w.heap.size ≤ b12 ∧ bd < b10 ∧ bd < b11 ∧ bd < b12) := Lib.hid (by have h1 := HB3.out.size; have h2 := HD3.out.lt; omega)
  have HNE := Lib.hid hne
  clear hbc hne hle
  have x10 := (hr10.cell p).trans (arr4_get d p hp4)
  have f10 := hr10.frozen p
  go_upto_region 6 with fail
  have y10 : Row (wc.setCell ⟨b10, p, none⟩ (.int .u64 0)) b10 29 (arr4 E) := (by have h := hr10.set p (.int .u64 ((0 : Nat) : Int)); rwa [arr4_set d p 0 hp4, HE.out] at h)
  have y11 := hr11.other (i := p) (v := .int .u64 0) (fun e => HNE.out.1 e.symm)
  have y12 := hr12.other (i := p) (v := .int .u64 0) (fun e => HNE.out.2.1 e.symm)
  have yd := HD4.out.other (i := p) (v := .int .u64 0) (show bd ≠ b10 by have := HLE.out; omega)
  have yb := HB4.out.setCell (p := ⟨b10, p, none⟩) HLE.out.1 (.int .u64 0)
  clear hr10 hr11 hr12 x10 f10
  generalize wc.setCell ⟨b10, p, none⟩ (.int .u64 0) = w5 at *
  have x11 := (y11.cell p).trans (arr4_get d p hp4)
  have f11 := y11.frozen p
  have hv : W64 (lor (d p) (shl1 (v52))) := hwp.lor w1'
  go_upto_region 7 with fail
  have z11 := (y11.set p (.int .u64 ((lor (d p) (shl1 (v52)) : Nat) : Int)))
  rw [arr4_set d p _ hp4, HG.out] at z11
  have z10 := y10.other (i := p) (v := .int .u64 ((lor (d p) (shl1 (v52)) : Nat) : Int)) HNE.out.1
  have z12 := y12.other (i := p) (v := .int .u64 ((lor (d p) (shl1 (v52)) : Nat) : Int)) (fun e => HNE.out.2.2 e.symm)
  have zd := yd.other (i := p) (v := .int .u64 ((lor (d p) (shl1 (v52)) : Nat) : Int)) (show bd ≠ b11 by have := HLE.out; omega)
  have zb := yb.setCell (p := ⟨b11, p, none⟩) HLE.out.2.1 (.int .u64 ((lor (d p) (shl1 (v52)) : Nat) : Int))
  clear y10 y11 y12 yd yb x11 f11 hv
  generalize w5.setCell ⟨b11, p, none⟩ (.int .u64 ((lor (d p) (shl1 (v52)) : Nat) : Int)) = w6 at *
  have x12 := (z12.cell p).trans (arr4_get d p hp4)
  have f12 := z12.frozen p
  have xd := (zd.cell p').trans (da_get HDA.out p' hp4')
  have hv : W64 (lor (d p) (d p')) := hwp.lor hwp'
  go_region
  have m12 := z12.set p (.int .u64 ((lor (d p) (d p') : Nat) : Int))
  rw [arr4_set d p _ hp4, HTT.out] at m12
  have m10 := z10.other (i := p) (v := .int .u64 ((lor (d p) (d p') : Nat) : Int)) HNE.out.2.1
  have m11 := z11.other (i := p) (v := .int .u64 ((lor (d p) (d p') : Nat) : Int)) HNE.out.2.2
  have md := zd.other (i := p) (v := .int .u64 ((lor (d p) (d p') : Nat) : Int)) (show bd ≠ b12 by have := HLE.out; omega)
  have mb := (zb.setCell (p := ⟨b12, p, none⟩) HLE.out.2.2.1 (.int .u64 ((lor (d p) (d p') : Nat) : Int))).drew
  replace m10 := m10.later (Below.refl _ _).drew
  replace m11 := m11.later (Below.refl _ _).drew
  replace m12 := m12.later (Below.refl _ _).drew
  replace md := md.later (Below.refl _ _).drew
  clear z10 z11 z12 zd zb x12 f12 xd hv
  go_upto_region 8 with fail
  generalize (w6.setCell ⟨b12, p, none⟩ (.int .u64 ((lor (d p) (d p') : Nat) : Int))).drew = w7 at *
  have HD7 := Lib.hid md
  have HB7 := Lib.hid mb
  rw [HDA.out] at md
  have ce0 := m10.cell 0
  have ce1 := m10.cell 1
  have ce2 := m10.cell 2
  have ce3 := m10.cell 3
  have cg0 := m11.cell 0
  have cg1 := m11.cell 1
  have cg2 := m11.cell 2
  have cg3 := m11.cell 3
  have ct0 := m12.cell 0
  have ct1 := m12.cell 1
  have ct2 := m12.cell 2
  have ct3 := m12.cell 3
  have cd0 := md.cell 0
  have cd1 := md.cell 1
  have cd2 := md.cell 2
  have cd3 := md.cell 3
  simp only [List.getElem?_toArray, List.getElem?_cons_zero, List.getElem?_cons_succ] at ce0 ce1 ce2 ce3 cg0 cg1 cg2 cg3 ct0 ct1 ct2 ct3 cd0 cd1 cd2 cd3
  clear m10 m11 m12 md mb
  clear hpI hpI' s1 s2 s3 s3' s4 r1 r2 r3
  go_upto_region 9 with fail
  have HB8 := Lib.hid (HB7.out.alloc HB7.out.size (.cells (sixA E G T d) 29))
  have HD8 := Lib.hid (HD7.out.alloc (.cells (sixA E G T d) 29))
  have HS8 := Lib.hid (Row.new w7 29 (sixA E G T d))
  clear ce0 ce1 ce2 ce3 cg0 cg1 cg2 cg3 ct0 ct1 ct2 ct3 cd0 cd1 cd2 cd3
  change Code.wp _ _ _ _ (w7.alloc (.cells (sixA E G T d) 29))
  generalize w7.alloc (.cells (sixA E G T d) 29) = w8 at *
  obtain ⟨b8, hb8⟩ : ∃ b, w7.heap.size = b := ⟨_, rfl⟩
  rw [hb8] at HS8 ⊢
  clear hb8
  go_loopw [64] (fun i wr => ∃ k : Nat, k ≤ 6 ∧ i = .int .i64 (k : Int) ∧ Below w.heap.size w wr ∧ Row wr b8 29 (sixA E G T d) ∧ Row wr bd 29 DA) (fun i _ => 6 - (intOf i).toNat)
  case atStart => exact ⟨0, by omega, rfl, HB8.out, HS8.out, HD8.out⟩
  case round =>
    obtain ⟨k, hk, rfl, hB, hS, hDr⟩ := hrel
    by_cases hlt : k < 6
    · rcases (show k = 0 ∨ k = 1 ∨ k = 2 ∨ k = 3 ∨ k = 4 ∨ k = 5 by omega) with rfl | rfl | rfl | rfl | rfl | rfl
      · have x0 := hS.cell 0
        have x1 := hS.cell 1
        have x2 := hS.cell 2
        have x3 := hS.cell 3
        simp only [List.getElem?_toArray, List.getElem?_cons_zero, List.getElem?_cons_succ] at x0 x1 x2 x3
        go_wp2_with fail
        refine (HN0.out _).mono ?_
        rintro e w10 ⟨rfl, hb⟩
        have hbr := (((Below.refl wr.heap.size wr).alloc (Nat.le_refl _) _).trans (hb.mono (by simp)))
        go_wp2_with fail
        go_roundw
        case rel => exact ⟨1, by omega, by go_num, hB.trans (hbr.mono hB.size), hS.below hS.lt hbr, hDr.below hDr.lt hbr⟩
        case measure => simp [intOf]
      · have x0 := hS.cell 4
        have x1 := hS.cell 5
        have x2 := hS.cell 6
        have x3 := hS.cell 7
        simp only [List.getElem?_toArray, List.getElem?_cons_zero, List.getElem?_cons_succ] at x0 x1 x2 x3
        go_wp2_with fail
        refine (HN1.out _).mono ?_
        rintro e w10 ⟨rfl, hb⟩
        have hbr := (((Below.refl wr.heap.size wr).alloc (Nat.le_refl _) _).trans (hb.mono (by simp)))
        go_wp2_with fail
        go_roundw
        case rel => exact ⟨2, by omega, by go_num, hB.trans (hbr.mono hB.size), hS.below hS.lt hbr, hDr.below hDr.lt hbr⟩
        case measure => simp [intOf]
      · have x0 := hS.cell 8
        have x1 := hS.cell 9
        have x2 := hS.cell 10
        have x3 := hS.cell 11
        simp only [List.getElem?_toArray, List.getElem?_cons_zero, List.getElem?_cons_succ] at x0 x1 x2 x3
        go_wp2_with fail
        refine (HN2.out _).mono ?_
        rintro e w10 ⟨rfl, hb⟩
        have hbr := (((Below.refl wr.heap.size wr).alloc (Nat.le_refl _) _).trans (hb.mono (by simp)))
        go_wp2_with fail
        go_roundw
        case rel => exact ⟨3, by omega, by go_num, hB.trans (hbr.mono hB.size), hS.below hS.lt hbr, hDr.below hDr.lt hbr⟩
        case measure => simp [intOf]
      · have x0 := hS.cell 12
        have x1 := hS.cell 13
        have x2 := hS.cell 14
        have x3 := hS.cell 15
        simp only [List.getElem?_toArray, List.getElem?_cons_zero, List.getElem?_cons_succ] at x0 x1 x2 x3
        go_wp2_with fail
        refine (HN3.out _).mono ?_
        rintro e w10 ⟨rfl, hb⟩
        have hbr := (((Below.refl wr.heap.size wr).alloc (Nat.le_refl _) _).trans (hb.mono (by simp)))
        go_wp2_with fail
        go_roundw
        case rel => exact ⟨4, by omega, by go_num, hB.trans (hbr.mono hB.size), hS.below hS.lt hbr, hDr.below hDr.lt hbr⟩
        case measure => simp [intOf]
      · have x0 := hS.cell 16
        have x1 := hS.cell 17
        have x2 := hS.cell 18
        have x3 := hS.cell 19
        simp only [List.getElem?_toArray, List.getElem?_cons_zero, List.getElem?_cons_succ] at x0 x1 x2 x3
        go_wp2_with fail
        refine (HN4.out _).mono ?_
        rintro e w10 ⟨rfl, hb⟩
        have hbr := (((Below.refl wr.heap.size wr).alloc (Nat.le_refl _) _).trans (hb.mono (by simp)))
        go_wp2_with fail
        go_roundw
        case rel => exact ⟨5, by omega, by go_num, hB.trans (hbr.mono hB.size), hS.below hS.lt hbr, hDr.below hDr.lt hbr⟩
        case measure => simp [intOf]
      · have x0 := hS.cell 20
        have x1 := hS.cell 21
        have x2 := hS.cell 22
        have x3 := hS.cell 23
        simp only [List.getElem?_toArray, List.getElem?_cons_zero, List.getElem?_cons_succ] at x0 x1 x2 x3
        go_wp2_with fail
        refine (HN5.out _).mono ?_
        rintro e w10 ⟨rfl, hb⟩
        have hbr := (((Below.refl wr.heap.size wr).alloc (Nat.le_refl _) _).trans (hb.mono (by simp)))
        go_wp2_with fail
        go_roundw
        case rel => exact ⟨6, by omega, by go_num, hB.trans (hbr.mono hB.size), hS.below hS.lt hbr, hDr.below hDr.lt hbr⟩
        case measure => simp [intOf]
    · obtain rfl : k = 6 := by omega
      have hD9 := hDr
      rw [HDA.out] at hD9
      have cd0 := hD9.cell 0
      have cd1 := hD9.cell 1
      have cd2 := hD9.cell 2
      have cd3 := hD9.cell 3
      simp only [List.getElem?_toArray, List.getElem?_cons_zero, List.getElem?_cons_succ] at cd0 cd1 cd2 cd3
      clear hD9 wa0 wa5 wa4 wb0
      go_wp2_with fail
      refine (HNW.out wr).mono ?_
      rintro e w10 ⟨B, rfl, hBB, hr, hb⟩
      have HBR : Hid (w.heap.size ≤ B) := Lib.hid (Nat.le_trans hB.size hBB)
      have HB10 := Lib.hid (hB.trans (hb.mono hB.size))
      have HR10 := Lib.hid hr
      have HD10 := Lib.hid (hDr.below hDr.lt hb)
      have HT10 := Lib.hid (HT0.out.below HT0.out.pos HB10.out)
      have HNE2 : Hid (bd ≠ B) := Lib.hid (by have := hDr.lt; omega)
      clear hb hr hBB hB hS hDr cd0 cd1 cd2 cd3
      obtain ⟨SA, hSA⟩ : ∃ SA, SA = S0.cells := ⟨_, rfl⟩
      have HSZ : Hid ((Tryd.prog.info? 45).map (·.size) = some SA.size ∧ SA.size = 24 ∧ SA.all (·.oneCell') = true) := Lib.hid (by rw [hSA]; exact ⟨size_st, rfl, by simp [Value.oneCell']⟩)
      have HSA := Lib.hid hSA
      clear hSA
      go_wp2_with fail
      refine (tb_State HD.out HI0.out HR10.out HSA.out).mono ?_
      rintro e w11 ⟨rfl, hb⟩
      have HB11 := Lib.hid (HB10.out.trans (hb.mono HB10.out.size))
      have HR11 := Lib.hid (HR10.out.below HR10.out.lt hb)
      have HD11 := Lib.hid (HD10.out.below HD10.out.lt hb)
      clear hb
      go_upto_region 19 with (refine wpList_store_row rfl 45 (.tmp 19) (.tmp 105) rfl w11.heap.size SA rfl rfl 45 _ (Row.new _ _ _) HSZ.out.1 (by rw [HSZ.out.2.1]; rfl) HSZ.out.2.2 ?_)
      have hb12 := below_setRow ((Below.refl w11.heap.size w11).alloc (Nat.le_refl _) (.cells zst 45)) (Nat.le_refl _) SA
      have hr12 : Row ((w11.alloc (.cells zst 45)).setRow w11.heap.size SA) w11.heap.size 45 SA := setRow_heap _ _ _ _ _ _ (Row.new _ _ _)
      change Code.wp _ _ _ _ ((w11.alloc (.cells zst 45)).setRow w11.heap.size SA)
      generalize (w11.alloc (.cells zst 45)).setRow w11.heap.size SA = w12 at *
      have HB12 := Lib.hid (HB11.out.trans (hb12.mono HB11.out.size))
      have HR12 := Lib.hid (HR11.out.below HR11.out.lt hb12)
      have HD12 := Lib.hid (HD11.out.below HD11.out.lt hb12)
      have HS12 := Lib.hid hr12
      obtain ⟨bs, hbs⟩ : ∃ bs, w11.heap.size = bs := ⟨_, rfl⟩
      rw [hbs] at HS12 ⊢
      clear hb12 hr12 hbs
      go_upto_region 20 with fail
      obtain ⟨s_turn, s_ld, s_opn, s_ct, s_pend, s_h⟩ := HSL.out
      have HPN : Hid ((d L).testBit c = false → S0.playV c = (S0, 141)) := Lib.hid (fun h => no_play HI0.out s_pend (by rw [s_h, s_turn]; exact h))
      have HLN : Hid ((d L).testBit c = false → S0.leadV L c = (S0, 141)) := Lib.hid (fun h => no_lead s_pend s_ct (.inr (by rw [s_h]; exact h)))
      obtain ⟨ms, hms⟩ : ∃ ms, ms = max seat 4 := ⟨_, rfl⟩
      obtain ⟨mc, hmc⟩ : ∃ mc, mc = max c 52 := ⟨_, rfl⟩
      have hms4 : 3 < ms := by omega
      have hmsI : (if (4 : Int) > (seat : Int) then (4 : Int) else (seat : Int)) = (ms : Int) := by split <;> omega
      have hmcI : (if (52 : Int) > (c : Int) then (52 : Int) else (c : Int)) = (mc : Int) := by split <;> omega
      have hmsI' : (if (seat : Int) < (4 : Int) then (4 : Int) else (seat : Int)) = (ms : Int) := by split <;> omega
      have hmcI' : (if (c : Int) < (52 : Int) then (52 : Int) else (c : Int)) = (mc : Int) := by split <;> omega
      have hms2 : ms < 256 := by omega
      have hmc2 : mc < 256 := by omega
      have hdp : (d p).testBit mc = false := by
        cases h : (d p).testBit mc
        · rfl
        · have := y_bit_lt (n := 52) (HD.out.lt p hp4) h; omega
      have HL1 : Hid (S0.leadV ms c = (S0, 141)) := Lib.hid (no_lead s_pend s_ct (.inl hms4))
      have HL2 : Hid (S0.leadV p mc = (S0, 141)) := Lib.hid (no_lead s_pend s_ct (.inr (by rw [s_h]; exact hdp)))
      clear hms hmc hdp s_turn s_pend s_h s_ct hms4
      have e10 : SA[10]? = some (.int .u8 (L : Int)) := by rw [HSA.out]; show some (Value.int .u8 (S0.ld : Int)) = _; rw [s_ld]
      have e19 : SA[19]? = some (.bool true) := by rw [HSA.out]; show some (Value.bool S0.opn) = _; rw [s_opn]
      have heq := eql_self S0 HSA.out
      clear s_ld s_opn
      have tb := bitAt_zero (d L) c
      have hwL := HW64.out L hL4
      have cL : w12.cell? ⟨bd, L, none⟩ = some (.int .u64 (d L : Int)) := (HD12.out.cell L).trans (da_get HDA.out L hL4)
      have s1 : ((seat : Int)).tmod 4 = (p : Int) := by rw [Int.tmod_eq_emod_of_nonneg (by omega)]; have := HHP.out; omega
      have s2 : IntKind.u8.wrap (p : Int) = (p : Int) := by rw [IntKind.wrap_u8]; omega
      have HPL := Lib.hid (fun (h : (d L).testBit c = false) (W : World) (hb : Below w12.heap.size w12 W) => tn_Play HD.out HI0.out (HR12.out.below HR12.out.lt hb) (HT0.out.below HT0.out.pos (HB12.out.trans (hb.mono HB12.out.size))) (HPN.out h))
      have HLL := Lib.hid (fun (h : (d L).testBit c = false) (W : World) (hb : Below w12.heap.size w12 W) => tn_Lead HD.out HI0.out (HR12.out.below HR12.out.lt hb) (HT0.out.below HT0.out.pos (HB12.out.trans (hb.mono HB12.out.size))) (by omega) (HLN.out h))
      have HM1 := Lib.hid (fun (W : World) (hb : Below w12.heap.size w12 W) => tn_Lead HD.out HI0.out (HR12.out.below HR12.out.lt hb) (HT0.out.below HT0.out.pos (HB12.out.trans (hb.mono HB12.out.size))) hms2 HL1.out)
      have HM2 := Lib.hid (fun (W : World) (hb : Below w12.heap.size w12 W) => tn_Lead HD.out HI0.out (HR12.out.below HR12.out.lt hb) (HT0.out.below HT0.out.pos (HB12.out.trans (hb.mono HB12.out.size))) (show p < 256 by omega) HL2.out)
      have HSS := Lib.hid (fun (W : World) (hb : Below w12.heap.size w12 W) => tb_State HD.out HI0.out (HR12.out.below HR12.out.lt hb) HSA.out)
      cases hb : (d L).testBit c
      · rw [hb] at tb
        go_wp2_with fail
        refine (HPL.out hb w12 (Below.refl _ _)).mono ?_
        rintro e w13 ⟨rfl, hb13⟩
        have HB13 := Lib.hid hb13
        clear hb13
        go_wp2_with fail
        refine (HLL.out hb w13 HB13.out).mono ?_
        rintro e w14 ⟨rfl, hb14⟩
        have HB14 := Lib.hid (HB13.out.trans (hb14.mono HB13.out.size))
        clear hb14
        go_upto_region 22 with fail
        have hSk := HS12.out.below HS12.out.lt HB14.out
        have c10 := (hSk.cell 10).trans e10
        have c19 := (hSk.cell 19).trans e19
        have r10 := fun dd os => cell_regrown c10 dd os
        have r19 := fun dd os => cell_regrown c19 dd os
        have HSk := Lib.hid hSk
        clear hSk
        refine wp_region_quiet_below (by kernel_rfl) (by kernel_rfl) ?_
        repeat (first
          | go_big_quiet_step (fail)
          | quiet_step (with_reducible exact Calls.regrown_of (HM1.out _ (HB14.out.trans ((below_regrown _ _ _).mono HB14.out.size))))
          | quiet_step (with_reducible exact Calls.regrown_of (HM2.out _ (HB14.out.trans ((below_regrown _ _ _).mono HB14.out.size))))
          | quiet_step (with_reducible exact Calls.regrown_of (HSS.out _ (HB14.out.trans ((below_regrown _ _ _).mono HB14.out.size))))
          | (refine quiet_row_g (by rfl) 45 (.tmp 19) rfl bs rfl (fun w' hw' => by obtain ⟨p, rfl⟩ := hw'; exact HSk.out.below HSk.out.lt (below_regrown _ _ _)) Tryd.underlying45 rfl HSZ.out.1 ?_))
        refine wpQuiet_nil ?_
        rintro _ ⟨q, rfl⟩
        go_wp2_with fail
        go_ret
        exact ⟨rfl, HB12.out.trans ((HB14.out.trans ((below_regrown w14 q.d q.os).mono HB14.out.size)).mono HB12.out.size)⟩
      · rw [hb] at tb
        go_upto_region 22 with fail
        have hSk := HS12.out.below HS12.out.lt (Below.refl _ _)
        have c10 := (hSk.cell 10).trans e10
        have c19 := (hSk.cell 19).trans e19
        have r10 := fun dd os => cell_regrown c10 dd os
        have r19 := fun dd os => cell_regrown c19 dd os
        have HSk := Lib.hid hSk
        clear hSk
        refine wp_region_quiet_below (by kernel_rfl) (by kernel_rfl) ?_
        repeat (first
          | go_big_quiet_step (fail)
          | quiet_step (with_reducible exact Calls.regrown_of (HM1.out _ (below_regrown _ _ _)))
          | quiet_step (with_reducible exact Calls.regrown_of (HM2.out _ (below_regrown _ _ _)))
          | quiet_step (with_reducible exact Calls.regrown_of (HSS.out _ (below_regrown _ _ _)))
          | (refine quiet_row_g (by rfl) 45 (.tmp 19) rfl bs rfl (fun w' hw' => by obtain ⟨p, rfl⟩ := hw'; exact HSk.out.below HSk.out.lt (below_regrown _ _ _)) Tryd.underlying45 rfl HSZ.out.1 ?_))
        refine wpQuiet_nil ?_
        rintro _ ⟨q, rfl⟩
        go_wp2_with fail
        go_ret
        exact ⟨rfl, HB12.out.trans ((below_regrown w12 q.d q.os).mono HB12.out.size)⟩
end Go.Proofs.YtgnlmodaekfhfaaDoor
