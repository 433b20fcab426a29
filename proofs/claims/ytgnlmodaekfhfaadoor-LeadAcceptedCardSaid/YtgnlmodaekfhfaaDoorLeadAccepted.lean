/- finesselaw14.LeadAccepted over this seat's program. -/
import Derived.Test.YtgnlmodaekfhfaaDoorMLdr
import Derived.Test.YtgnlmodaekfhfaaDoorMRelt
import Derived.Deep.Cut
import Derived.Deep.CutRange
namespace Go.Proofs.YtgnlmodaekfhfaaDoor
open Go.RowKit Go.Shelf Go.Sort

attribute [-go_sem] run_equalIn_agg run_neq_struct
/-- while a card is played at both tables -/
def AcS (w : World) (BT BU : Nat) (T T' U U' : St) (e : Nat) (vs _us : List Value) (W : World) : Prop := Below w.heap.size w W ∧ match vs with
  | [] => TblAt W BT T ∧ TblAt W BU U
  | [x] => x = .int .i64 (e : Int) ∧ TblAt W BT T' ∧ TblAt W BU U
  | [x, y] => x = .int .i64 (e : Int) ∧ y = .int .i64 (e : Int) ∧ TblAt W BT T' ∧ TblAt W BU U'
  | _ => False
theorem AcS.below {w : World} {BT BU : Nat} {T T' U U' : St} {e : Nat} {vs us : List Value} {W W' : World} (h : AcS w BT BU T T' U U' e vs us W) (hb : Below W.heap.size W W') : AcS w BT BU T T' U U' e vs us W' := by
  obtain ⟨h1, h2⟩ := h
  refine ⟨h1.trans (hb.mono h1.size), ?_⟩
  match vs, h2 with
  | [], h2 => exact ⟨h2.1.below h2.1.lt hb, h2.2.below h2.2.lt hb⟩
  | [x], h2 => exact ⟨h2.1, h2.2.1.below h2.2.1.lt hb, h2.2.2.below h2.2.2.lt hb⟩
  | [x, y], h2 => exact ⟨h2.1, h2.2.1, h2.2.2.1.below h2.2.2.1.lt hb, h2.2.2.2.below h2.2.2.2.lt hb⟩
theorem AcS.early {w : World} {BT BU : Nat} {T T' U U' : St} {e : Nat} {vs us : List Value} {W : World} (h : AcS w BT BU T T' U U' e vs us W) (hl : vs.length ≤ 1) : TblAt W BU U := by
  obtain ⟨h1, h2⟩ := h
  match vs, h2 with
  | [], h2 => exact h2.2
  | [x], h2 => exact h2.2.2
theorem AcS.both {w : World} {BT BU : Nat} {T T' U U' : St} {e : Nat} {vs us : List Value} {W : World} {x y : Value} (h : AcS w BT BU T T' U U' e vs us W) (hx : vs[0]? = some x) (hy : vs[1]? = some y) : x = .int .i64 (e : Int) ∧ y = .int .i64 (e : Int) := by
  obtain ⟨h1, h2⟩ := h
  match vs, h2, hx, hy with
  | [a, b], h2, hx, hy =>
    obtain rfl := Option.some.inj hx
    obtain rfl := Option.some.inj hy
    exact ⟨h2.1, h2.2.1⟩
theorem neq_self (s : St) {SA : Array Value} (h : SA = s.cells) (w : World) : Sem.run Tryd.prog (binOp .neq 45 (.agg SA) (.agg SA)) w = .ok (.bool false) w := by
  have hs : s.same s = true := by unfold St.same; simp
  rw [h, neq_cells s s rfl, hs]; rfl
theorem st_dset (s : St) (v : Nat) : s.cells.setIfInBounds 9 (.int .u8 (v : Int)) = (s.by v).cells := rfl
set_option maxHeartbeats 4000000 in
set_option maxRecDepth 10000 in
theorem law_LeadAccepted (x : Sk) (ao : Option Addr) (lo co : Nat) (seat card : Nat) (al : Option Addr) (ll cl : Nat) (zs : List AcT) (w : World) (hx0 : x.size < 256) (hx1 : x.trumps < 256) (hx2 : x.decl < 256) (hz : Byt w ao lo x.order) (hb1 : seat < 256) (hb2 : card < 256) (hzl : Acts w al ll zs) (_ : ll ≤ cl) (hT : Tab w) :
    Calls Tryd.prog 3 #[.agg (x.cells ao lo co), .int .u8 (seat : Int), .int .u8 (card : Int), .slice al ll cl] w fun e w' => e = .returned (.bool true) ∧ Below w.heap.size w w' := by
  have HT0 := Lib.hid hT
  have hd := x.deal
  have HMK := Lib.hid (fun (W : World) (hb : Below w.heap.size w W) => law_Made x ao lo co W (hz.below (Nat.le_refl _) hb) hx0 hx1 hx2)
  obtain ⟨tm, htm⟩ : ∃ tm, x.trumps % 5 = tm := ⟨_, rfl⟩
  obtain ⟨dc, hdc⟩ : ∃ dc, x.decl % 4 = dc := ⟨_, rfl⟩
  have htm4 : tm ≤ 4 := by omega
  have hdc4 : dc < 4 := by omega
  rw [htm, hdc] at HMK
  have hnle := x.n_le.2
  have hw64 := x.w64
  generalize x.h = d at *
  generalize x.n = n at *
  have HD := Lib.hid hd
  have HW64 := Lib.hid (fun (i : Nat) (hi : i < 4) => w64_52 (hd.lt i hi))
  obtain ⟨DA, hDA⟩ : ∃ DA, DA = arr4 d := ⟨_, rfl⟩
  have HDA := Lib.hid hDA
  have HDZ : Hid ((Tryd.prog.info? 29).map (·.size) = some DA.size ∧ DA.size = 4 ∧ DA.all (·.oneCell') = true) := Lib.hid (by rw [hDA]; exact ⟨size_deal14, rfl, by simp [arr4, Value.oneCell']⟩)
  rw [← hDA] at HMK
  obtain ⟨XC, hXC⟩ : ∃ XC, XC = x.cells ao lo co := ⟨_, rfl⟩
  have HXZ : Hid ((Tryd.prog.info? 24).map (·.size) = some XC.size) := Lib.hid (by rw [hXC]; exact size_sk14)
  rw [← hXC] at HMK ⊢
  clear hXC hDA hT hz htm hdc hd
  obtain ⟨q, hq⟩ : ∃ q, seat % 4 = q := ⟨_, rfl⟩
  have hq4 : q < 4 := by omega
  have s1 : ((seat : Int)).tmod 4 = (q : Int) := by rw [Int.tmod_eq_emod_of_nonneg (by omega)]; omega
  have s2 : IntKind.u8.wrap (q : Int) = (q : Int) := by rw [IntKind.wrap_u8]; omega
  obtain ⟨c, U1, hc, iU, iT, i1, ePU, eLT, eLN⟩ := acc_plain HD.out (tm := tm) (dc := dc) (q := q) htm4 hdc4 hq4 card
  obtain ⟨q3, hq3⟩ : ∃ q3, (q + 3) % 4 = q3 := ⟨_, rfl⟩
  have s3 : IntKind.u8.wrap ((q : Int) + 3) = (q : Int) + 3 := by rw [IntKind.wrap_u8]; omega
  have s4 : ((q : Int) + 3).tmod 4 = (q3 : Int) := by rw [Int.tmod_eq_emod_of_nonneg (by omega)]; omega
  have s5 : IntKind.u8.wrap (q3 : Int) = (q3 : Int) := by rw [IntKind.wrap_u8]; omega
  obtain ⟨L, hL⟩ : ∃ L, (dc + 1) % 4 = L := ⟨_, rfl⟩
  have l1 : IntKind.u8.wrap ((dc : Int) + 1) = (dc : Int) + 1 := by rw [IntKind.wrap_u8]; omega
  have l2 : ((dc : Int) + 1).tmod 4 = (L : Int) := by rw [Int.tmod_eq_emod_of_nonneg (by omega)]; omega
  have l3 : IntKind.u8.wrap (L : Int) = (L : Int) := by rw [IntKind.wrap_u8]; omega
  have hqI : (q : Int) < 4 := by omega
  rw [hq3] at iU ePU
  rw [hL] at eLT eLN
  have HNT := Lib.hid (fun W => ld_New_ok HD.out hw64 tm dc htm4 (by omega) W)
  have HNU := Lib.hid (fun W => ld_New_ok HD.out hw64 tm q3 htm4 (by omega) W)
  have hda : #[.int .u64 (d 0 : Int), .int .u64 (d 1 : Int), .int .u64 (d 2 : Int), .int .u64 (d 3 : Int)] = DA := HDA.out.symm
  rw [hda] at HNT HNU
  obtain ⟨T0, hT0⟩ : ∃ T0, St.new d tm dc = T0 := ⟨_, rfl⟩
  obtain ⟨U0, hU0⟩ : ∃ U0, St.new d tm q3 = U0 := ⟨_, rfl⟩
  rw [hT0] at iT eLT eLN HNT
  rw [hU0] at iU ePU HNU
  have HIT := Lib.hid iT
  have HIU := Lib.hid iU
  have HI1 := Lib.hid i1
  have HEP := Lib.hid ePU
  have HELT := Lib.hid eLT
  have HELN := Lib.hid eLN
  have hwq := HW64.out q hq4
  have dq := da_get HDA.out q hq4
  have HNN := Lib.hid (fun W => law_nth (d q) card hwq hb2 W)
  rw [← hc] at HNN
  have HAC := Lib.hid hzl
  have hlen := hzl.length
  have hsmall := hzl.small
  have hc256 : c < 256 := by rw [hc]; exact nthV_lt _ _
  clear hda hw64 hq hc iU iT i1 ePU eLT eLN hq3 hL hT0 hU0 hzl
  have hb0 := (Below.refl w.heap.size w).alloc (Nat.le_refl _) (.cells XC 24)
  have hx0' : Row (w.alloc (.cells XC 24)) w.heap.size 24 XC := Row.new _ _ _
  go_enter Tryd.func3, Tryd.ntmps3
  go_upto_region 1 with fail
  generalize w.alloc (.cells XC 24) = w0 at *
  obtain ⟨bx, hbx⟩ : ∃ bx, w.heap.size = bx := ⟨_, rfl⟩
  have HB0 := Lib.hid hb0
  have HX0 := Lib.hid hx0'
  rw [hbx] at HX0
  have HBX := Lib.hid hbx
  clear hb0 hx0'
  rw [hbx]
  clear hbx
  have HT1 := Lib.hid (HT0.out.below HT0.out.pos HB0.out)
  go_wp2_with fail
  refine (law_awake14 _ HT1.out).mono ?_
  rintro e w1 ⟨rfl, hb⟩
  have HB1 := Lib.hid (HB0.out.trans (hb.mono HB0.out.size))
  have HX1 := Lib.hid (HX0.out.below HX0.out.lt hb)
  clear hb
  go_wp2_with (refine wpList_load_row rfl 24 (.tmp 4) rfl bx rfl 24 XC (0, 0) _ HX1.out Tryd.underlying24 rfl HXZ.out ?_)
  refine (HMK.out w1 HB1.out).mono ?_
  rintro e w2 ⟨rfl, hb⟩
  have HB2 := Lib.hid (HB1.out.trans (hb.mono HB1.out.size))
  clear hb
  go_upto_region 4 with (refine wpList_store_row rfl 29 (.tmp 9) (.tmp 26) rfl w2.heap.size DA rfl rfl 29 _ (Row.new _ _ _) HDZ.out.1 (by rw [HDZ.out.2.1]; rfl) HDZ.out.2.2 ?_)
  have hb3 := below_setRow (HB2.out.alloc HB2.out.size (.cells #[.int .u64 0, .int .u64 0, .int .u64 0, .int .u64 0] 29)) HB2.out.size DA
  have hr3 : Row ((w2.alloc (.cells #[.int .u64 0, .int .u64 0, .int .u64 0, .int .u64 0] 29)).setRow w2.heap.size DA) w2.heap.size 29 DA := setRow_heap _ _ _ _ _ _ (Row.new _ _ _)
  generalize (w2.alloc (.cells #[.int .u64 0, .int .u64 0, .int .u64 0, .int .u64 0] 29)).setRow w2.heap.size DA = w3 at *
  obtain ⟨bd, hbd⟩ : ∃ bd, w2.heap.size = bd := ⟨_, rfl⟩
  have HBD : Hid (w.heap.size ≤ bd) := Lib.hid (by rw [← hbd]; exact HB2.out.size)
  rw [hbd] at hr3 ⊢
  have HB3 := Lib.hid hb3
  have HD3 := Lib.hid hr3
  have HT3 := Lib.hid (HT0.out.below HT0.out.pos HB3.out)
  clear hb3 hr3 hbd
  have cq : w3.cell? ⟨bd, q, none⟩ = some (.int .u64 (d q : Int)) := (HD3.out.cell q).trans dq
  go_wp2_with fail
  refine (HNN.out w3).mono ?_
  rintro e w4 ⟨rfl, hb⟩
  have HB4 := Lib.hid (HB3.out.trans (hb.mono HB3.out.size))
  have HD4 := Lib.hid (HD3.out.below HD3.out.lt hb)
  have HT4 := Lib.hid (HT0.out.below HT0.out.pos HB4.out)
  clear hb
  clear cq
  go_wp2_with (refine wpList_load_row rfl 29 (.tmp 9) rfl bd rfl 29 DA (0, 0) _ HD4.out Tryd.underlying29 rfl HDZ.out.1 ?_)
  refine (HNT.out w4).mono ?_
  rintro e w5 ⟨BT, rfl, hBB, hr, hb⟩
  have HBT' : Hid (w.heap.size ≤ BT) := Lib.hid (Nat.le_trans HB4.out.size hBB)
  have HNDT : Hid (bd < BT) := Lib.hid (Nat.lt_of_lt_of_le HD4.out.lt hBB)
  have HB5 := Lib.hid (HB4.out.trans (hb.mono HB4.out.size))
  have HR5 := Lib.hid hr
  have HD5 := Lib.hid (HD4.out.below HD4.out.lt hb)
  clear hb hr hBB
  go_wp2_with (refine wpList_load_row rfl 29 (.tmp 9) rfl bd rfl 29 DA (0, 0) _ HD5.out Tryd.underlying29 rfl HDZ.out.1 ?_)
  refine (HNU.out w5).mono ?_
  rintro e w6 ⟨BU, rfl, hBB, hu, hb⟩
  have HBU' : Hid (w.heap.size ≤ BU) := Lib.hid (Nat.le_trans HB5.out.size hBB)
  have HNTU : Hid (BT < BU) := Lib.hid (Nat.lt_of_lt_of_le HR5.out.lt hBB)
  have HB6 := Lib.hid (HB5.out.trans (hb.mono HB5.out.size))
  have HR6 := Lib.hid (HR5.out.below HR5.out.lt hb)
  have HU6 := Lib.hid hu
  have HT6 := Lib.hid (HT0.out.below HT0.out.pos HB6.out)
  clear hb hu hBB
  obtain ⟨T1, hT1, e1, hTL, hTN⟩ : ∃ T1, SInv d n T1 ∧ T0.leadV q c = (T1, 0) ∧ (q = L → T1 = U1.by dc) ∧ (q ≠ L → T1.chooseV 1 = (U1.by dc, 0)) := by
    by_cases hql : q = L
    · exact ⟨_, HI1.out.by hdc4, HELT.out hql, fun _ => rfl, fun h => absurd hql h⟩
    · obtain ⟨T1, i1, e1, e2⟩ := HELN.out hql
      exact ⟨T1, i1, e1, fun h => absurd h hql, fun _ => e2⟩
  have HIT1 := Lib.hid hT1
  have HE1 := Lib.hid e1
  have HTL := Lib.hid hTL
  have HTN := Lib.hid hTN
  clear hT1 e1 hTL hTN
  go_wp2_with fail
  refine (tq_Lead HD.out HIT.out HR6.out HT6.out (by omega) HE1.out).mono ?_
  rintro e w7 ⟨rfl, hr, hk⟩
  have HU7 := Lib.hid (HU6.out.kept (show BU ≠ BT by have := HNTU.out; omega) hk)
  have HB7 := Lib.hid (HB6.out.trans (hk.toBelow HBT'.out HB6.out.size))
  have HR7 := Lib.hid hr
  have HT7 := Lib.hid (HT0.out.below HT0.out.pos HB7.out)
  clear hr hk
  go_wp2_with fail
  refine (tq_Play HD.out HIU.out HU7.out HT7.out HEP.out).mono ?_
  rintro e w8 ⟨rfl, hu, hk⟩
  have HB8 := Lib.hid (HB7.out.trans (hk.toBelow HBU'.out HB7.out.size))
  have HR8 := Lib.hid (HR7.out.kept (show BT ≠ BU by have := HNTU.out; omega) hk)
  have HU8 := Lib.hid hu
  clear hu hk
  go_upto_region 10 with fail
  go_cut [78] from 69 to 77 (fun v wx => v = .bool false ∧ TblAt wx BT (U1.by dc) ∧ TblAt wx BU U1 ∧ Below w.heap.size w wx)
  case first =>
    by_cases hql : q = L
    · have hqb : ((q : Int) != (L : Int)) = false := by rw [bne_eq_false_iff_eq]; omega
      have hte := HTL.out hql
      clear hql
      go_wp2_with fail
      go_meet
      exact ⟨rfl, by rw [← hte]; exact HR8.out, HU8.out, HB8.out⟩
    · have hqb : ((q : Int) != (L : Int)) = true := by rw [bne_iff_ne]; omega
      have HE2 := Lib.hid (HTN.out hql)
      clear hql
      go_wp2_with fail
      refine (tq_Choose (choice := 1) HD.out HIT1.out HR8.out HE2.out).mono ?_
      rintro e w9 ⟨rfl, hr, hk⟩
      have HB9 := Lib.hid (HB8.out.trans (hk.toBelow HBT'.out HB8.out.size))
      have HU9 := Lib.hid (HU8.out.kept (show BU ≠ BT by have := HNTU.out; omega) hk)
      have HR9 := Lib.hid hr
      clear hr hk
      go_wp2_with fail
      go_meet
      exact ⟨rfl, HR9.out, HU9.out, HB9.out⟩
  obtain ⟨rfl, hr10, hu10, hb10⟩ := hcut
  clear l1 l2 l3 s1 s2 s3 s4 s5
  obtain ⟨m, hm⟩ : ∃ m, m = min ll 30 := ⟨_, rfl⟩
  have hm1 : m ≤ ll := by omega
  have hm2 : m ≤ 30 := by omega
  have hmI : (if (30 : Int) < (ll : Int) then (30 : Int) else (ll : Int)) = (m : Int) := by split <;> omega
  have HM := Lib.hid hm
  clear hm
  go_wp2_with fail
  go_loopw [17] (fun i wr => ∃ k : Nat, k ≤ m + 1 ∧ i = .int .i64 ((k : Int) - 1) ∧ TblAt wr BT ((plsV U1 (zs.take (k - 1))).by dc) ∧ TblAt wr BU (plsV U1 (zs.take (k - 1))) ∧ Below w.heap.size w wr) (fun i _ => m + 1 - (intOf i + 1).toNat)
  case atStart => exact ⟨0, by omega, rfl, hr10, hu10, hb10⟩
  case round =>
    obtain ⟨k, hk, rfl, hr, hu, hB⟩ := hrel
    by_cases hlt : k ≤ m
    · have hkm : decide ((k : Int) - 1 < (m : Int)) = true := by rw [decide_eq_true_eq]; omega
      have hkm' : (k : Int) - 1 < (m : Int) := by omega
      obtain ⟨U', hU'⟩ : ∃ U', plsV U1 (zs.take k) = U' := ⟨_, rfl⟩
      have hiU' : SInv d n U' := by rw [← hU']; exact SInv.pls HD.out _ _ HI1.out
      have HU' := Lib.hid hU'
      have HIU' := Lib.hid hiU'
      clear hU' hiU'
      by_cases hk0 : k = 0
      · subst hk0
        rw [show zs.take (0 - 1) = zs.take 0 from rfl, HU'.out] at hr hu
        have HR20 := Lib.hid hr
        have HU20 := Lib.hid hu
        have HB20 := Lib.hid hB
        clear hr hu hB
        have hz : ((0 : Nat) : Int) - 1 = -1 := by omega
        rw [hz] at hkm hkm' ⊢
        go_upto_region 19 with fail
        obtain ⟨SB, hSB⟩ : ∃ SB, SB = (U'.by dc).cells := ⟨_, rfl⟩
        obtain ⟨SU, hSU⟩ : ∃ SU, SU = U'.cells := ⟨_, rfl⟩
        have HZB : Hid ((Tryd.prog.info? 45).map (·.size) = some SB.size ∧ SB.size = 24 ∧ SB.all (·.oneCell') = true) := Lib.hid (by rw [hSB]; exact ⟨size_st, rfl, by simp [Value.oneCell']⟩)
        have HZU : Hid ((Tryd.prog.info? 45).map (·.size) = some SU.size ∧ SU.size = 24 ∧ SU.all (·.oneCell') = true) := Lib.hid (by rw [hSU]; exact ⟨size_st, rfl, by simp [Value.oneCell']⟩)
        have HSB := Lib.hid hSB
        have HSU := Lib.hid hSU
        have hnq := neq_self (U'.by dc) hSB
        clear hSB hSU
        go_wp2_with fail
        refine (tb_State HD.out (HIU'.out.by hdc4) HR20.out HSB.out).mono ?_
        rintro e w21 ⟨rfl, hb⟩
        have HB21 := Lib.hid (HB20.out.trans (hb.mono HB20.out.size))
        have HR21 := Lib.hid (HR20.out.below HR20.out.lt hb)
        have HU21 := Lib.hid (HU20.out.below HU20.out.lt hb)
        clear hb
        go_wp2_with fail
        refine (tb_State HD.out HIU'.out HU21.out HSU.out).mono ?_
        rintro e w22 ⟨rfl, hb⟩
        have HB22 := Lib.hid (HB21.out.trans (hb.mono HB21.out.size))
        have HR22 := Lib.hid (HR21.out.below HR21.out.lt hb)
        have HU22 := Lib.hid (HU21.out.below HU21.out.lt hb)
        clear hb
        have n19 : Row ((w22.alloc (.cells zst 45)).alloc (.cells zst 45)) w22.heap.size 45 zst := (Row.new _ _ _).alloc _
        have n20 : Row ((w22.alloc (.cells zst 45)).alloc (.cells zst 45)) (w22.heap.size + 1) 45 zst := by have h := Row.new (w22.alloc (.cells zst 45)) 45 zst; rwa [World.size_alloc] at h
        have n20' := n20.same (setRow_other ((w22.alloc (.cells zst 45)).alloc (.cells zst 45)) w22.heap.size (w22.heap.size + 1) SB (by omega))
        go_upto_region 20 with (first
          | refine wpList_store_row rfl 45 (.tmp 19) (.tmp 116) rfl w22.heap.size SB rfl rfl 45 _ n19 HZB.out.1 (by rw [HZB.out.2.1]; rfl) HZB.out.2.2 ?_
          | refine wpList_store_row rfl 45 (.tmp 20) (.tmp 118) rfl (w22.heap.size + 1) SU rfl rfl 45 _ n20' HZU.out.1 (by rw [HZU.out.2.1]; rfl) HZU.out.2.2 ?_)
        have hbz := (((Below.refl w22.heap.size w22).alloc (Nat.le_refl _) (.cells zst 45)).alloc (by simp) (.cells zst 45))
        have hb24 := below_setRow (below_setRow hbz (Nat.le_refl _) SB) (show w22.heap.size ≤ w22.heap.size + 1 by omega) SU
        have r19 := (setRow_heap ((w22.alloc (.cells zst 45)).alloc (.cells zst 45)) w22.heap.size _ SB _ _ n19)
        have r20 := (setRow_heap (((w22.alloc (.cells zst 45)).alloc (.cells zst 45)).setRow w22.heap.size SB) (w22.heap.size + 1) _ SU _ _ n20')
        have r19' : Row _ w22.heap.size 45 SB := Row.same r19 (setRow_other (((w22.alloc (.cells zst 45)).alloc (.cells zst 45)).setRow w22.heap.size SB) (w22.heap.size + 1) w22.heap.size SU (by omega))
        have r20' : Row _ (w22.heap.size + 1) 45 SU := r20
        change Code.wp _ _ _ _ ((((w22.alloc (.cells zst 45)).alloc (.cells zst 45)).setRow w22.heap.size SB).setRow (w22.heap.size + 1) SU)
        clear n19 n20 n20' hbz r19 r20
        generalize (((w22.alloc (.cells zst 45)).alloc (.cells zst 45)).setRow w22.heap.size SB).setRow (w22.heap.size + 1) SU = w24 at *
        have HB24 := Lib.hid (HB22.out.trans (hb24.mono HB22.out.size))
        have HR24 := Lib.hid (HR22.out.below HR22.out.lt hb24)
        have HU24 := Lib.hid (HU22.out.below HU22.out.lt hb24)
        have HNB : Hid (BT < w22.heap.size ∧ BU < w22.heap.size ∧ w.heap.size ≤ w22.heap.size) := Lib.hid ⟨HR22.out.lt, HU22.out.lt, HB22.out.size⟩
        clear hb24
        obtain ⟨b19, hb19⟩ : ∃ b, w22.heap.size = b := ⟨_, rfl⟩
        rw [hb19] at r19' r20' HNB ⊢
        clear hb19
        have HR19 := Lib.hid r19'
        have HR20' := Lib.hid r20'
        have c9 : w24.cell? ⟨b19 + 1, 9, none⟩ = some (.int .u8 (U'.dc : Int)) := by rw [r20'.cell, HSU.out]; rfl
        have f9 := r20'.frozen 9
        clear r19' r20'
        go_upto_region 21 with fail
        have r19 := HR19.out.other (B' := b19 + 1) (i := 9) (v := .int .u8 (dc : Int)) (by omega)
        have r20 : Row (w24.setCell ⟨b19 + 1, 9, none⟩ (.int .u8 (dc : Int))) (b19 + 1) 45 SB := by
          have h := HR20'.out.set 9 (.int .u8 (dc : Int))
          rw [HSU.out, st_dset] at h
          rw [HSB.out]; exact h
        have HR25 := Lib.hid (HR24.out.other (B' := b19 + 1) (i := 9) (v := .int .u8 (dc : Int)) (by have := HNB.out; omega))
        have HU25 := Lib.hid (HU24.out.other (B' := b19 + 1) (i := 9) (v := .int .u8 (dc : Int)) (by have := HNB.out; omega))
        have HB25 := Lib.hid (HB24.out.setCell (p := ⟨b19 + 1, 9, none⟩) (show w.heap.size ≤ b19 + 1 by have := HNB.out; omega) (.int .u8 (dc : Int)))
        have HR19' := Lib.hid r19
        have HR20'' := Lib.hid r20
        clear r19 r20 c9 f9
        generalize w24.setCell ⟨b19 + 1, 9, none⟩ (.int .u8 (dc : Int)) = w25 at *
        go_wp2_with (first
          | refine wpList_load_row rfl 45 (.tmp 19) rfl b19 rfl 45 SB (0, 0) _ HR19'.out Tryd.underlying45 rfl HZB.out.1 ?_
          | refine wpList_load_row rfl 45 (.tmp 20) rfl (b19 + 1) rfl 45 SB (0, 0) _ HR20''.out Tryd.underlying45 rfl HZB.out.1 ?_)
        go_roundw
        case rel => exact ⟨0 + 1, by omega, by go_num, by rw [show 0 + 1 - 1 = 0 by omega, HU'.out]; exact HR25.out, by rw [show 0 + 1 - 1 = 0 by omega, HU'.out]; exact HU25.out, HB25.out⟩
        case measure => simp [intOf]
      · obtain ⟨j, rfl⟩ : ∃ j, k = j + 1 := ⟨k - 1, by omega⟩
        have hj : ((j + 1 : Nat) : Int) - 1 = (j : Int) := by omega
        rw [hj] at hkm hkm' ⊢
        rw [show j + 1 - 1 = j by omega] at hr hu
        have hjl : j < zs.length := by omega
        have hUe := HU'.out
        rw [plsV_take U1 zs j hjl] at hUe
        have hiU := SInv.pls HD.out (zs.take j) U1 HI1.out
        generalize plsV U1 (zs.take j) = U at *
        have hak : zs[j]? = some zs[j] := List.getElem?_eq_getElem hjl
        have hok := HAC.out.ok j _ hak
        obtain ⟨ba, off, hal, hba, hcc⟩ : ∃ b off, al = some ⟨b, off, none⟩ ∧ b < w.heap.size ∧ ∀ (i : Nat) x, zs[i]? = some x → ∀ j, j < 3 → w.cell? ⟨b, off + i * 3 + j, none⟩ = x.cells[j]? := by
          rcases HAC.out.cells with h0 | h
          · omega
          · exact h
        subst hal
        have hc2 := hcc j _ hak 2 (by omega)
        obtain ⟨ac, hac⟩ : ∃ ac, zs[j].card = ac := ⟨_, rfl⟩
        have hc2' : w.cell? ⟨ba, off + j * 3 + 2, none⟩ = some (.int .u8 (ac : Int)) := by rw [hc2, ← hac]; rfl
        have hacl : ac < 256 := by rw [← hac]; exact hok.card
        rw [hac] at hUe
        obtain ⟨lg, hlg⟩ : ∃ lg, U.legal = lg := ⟨_, rfl⟩
        obtain ⟨cc, hcc'⟩ : ∃ cc, nthV lg ac = cc := ⟨_, rfl⟩
        obtain ⟨e', he'⟩ : ∃ e', (U.playV cc).2 = e' := ⟨_, rfl⟩
        have hpU : U.playV cc = (U', e') := Prod.ext (by rw [← hUe]; unfold plV; rw [hlg, hcc']) he'
        have hpT : (U.by dc).playV cc = (U'.by dc, e') := by rw [play_by, hpU]
        have hwl : W64 lg := by rw [← hlg]; exact legal_w64 hiU.ok
        have HLT := Lib.hid (fun (W : World) (hA : TblAt W BT (U.by dc)) (hT : Tab W) => tb_Legal HD.out (hiU.by hdc4) hA hT)
        have HLU := Lib.hid (fun (W : World) (hA : TblAt W BU U) (hT : Tab W) => tb_Legal HD.out hiU hA hT)
        rw [show (U.by dc).legal = lg from hlg] at HLT
        rw [hlg] at HLU
        have HNC := Lib.hid (fun W => law_nth lg ac hwl hacl W)
        rw [hcc'] at HNC
        have HPU := Lib.hid (fun (W : World) (hA : TblAt W BU U) (hT : Tab W) => tq_Play HD.out hiU hA hT hpU)
        have HPT := Lib.hid (fun (W : World) (hA : TblAt W BT (U.by dc)) (hT : Tab W) => tq_Play HD.out (hiU.by hdc4) hA hT hpT)
        have HCA : Hid (w.cell? ⟨ba, off + j * 3 + 2, none⟩ = some (.int .u8 (ac : Int)) ∧ ba < w.heap.size) := Lib.hid ⟨hc2', hba⟩
        have HBB : Hid (w.heap.size ≤ BT ∧ w.heap.size ≤ BU ∧ BT < BU) := Lib.hid ⟨HBT'.out, HBU'.out, HNTU.out⟩
        have hjlI : (j : Int) < (ll : Int) := by omega
        have HJ : Hid ((0 : Int) ≤ (j : Int) ∧ (j : Int) < (ll : Int) ∧ j < ll) := Lib.hid ⟨by omega, by omega, by omega⟩
        have HR16 := Lib.hid hr
        have HU16 := Lib.hid hu
        have HB16 := Lib.hid hB
        have HT16 := Lib.hid (HT0.out.below HT0.out.pos hB)
        clear hak hok hcc hc2 hc2' hac hUe hlg hcc' he' hpU hpT hba hr hu hB hiU
        go_wp2_with fail
        refine (HLT.out wr HR16.out HT16.out).mono ?_
        rintro e w17 ⟨rfl, hb⟩
        have HB17 := Lib.hid (HB16.out.trans (hb.mono HB16.out.size))
        have HR17 := Lib.hid (HR16.out.below HR16.out.lt hb)
        have HU17 := Lib.hid (HU16.out.below HU16.out.lt hb)
        clear hb
        go_upto_region 17 with fail
        refine wp_region_reliesT (ChF [.int .u64 (lg : Int), .pointer (some ⟨BU, 0, none⟩), .int .u64 (lg : Int), .bool false, .bool false, .pointer (some ⟨BT, 0, none⟩), .int .u64 (lg : Int), .slice (some ⟨ba, off, none⟩) ll cl, .int .i64 (j : Int), .pointer (some ⟨ba, off + j * 3, none⟩), .pointer (some ⟨ba, off + j * 3 + 2, none⟩), .int .u8 (ac : Int), .int .u8 (cc : Int), undef, .pointer (some ⟨BU, 0, none⟩), .int .u64 (lg : Int), .slice (some ⟨ba, off, none⟩) ll cl, .int .i64 (j : Int), .pointer (some ⟨ba, off + j * 3, none⟩), .pointer (some ⟨ba, off + j * 3 + 2, none⟩), .int .u8 (ac : Int), .int .u8 (cc : Int), undef, .bool false, .bool false] [13, 22] [] (AcS w BT BU (U.by dc) (U'.by dc) U U' e')) (fun _ => true) (by kernel_rfl) (by kernel_rfl) (by kernel_rfl) (by kernel_rfl) (ChF.start ⟨HB17.out.drew, HR17.out.below HR17.out.lt (Below.refl _ _).drew, HU17.out.below HU17.out.lt (Below.refl _ _).drew⟩) ?obls ?fini
        case obls =>
          refine ⟨⟨?_, ?_⟩, ⟨?_, ?_⟩, ⟨?_, ?_⟩, ⟨?_, ?_⟩, ⟨?_, ?_⟩, ⟨?_, ?_⟩, ⟨?_, ?_⟩, ⟨?_, ?_⟩, ⟨?_, ?_⟩, ⟨?_, ?_⟩, ⟨?_, ?_⟩, ⟨?_, ?_⟩, ⟨?_, ?_⟩, ⟨?_, ?_⟩, ⟨?_, ?_⟩, ⟨?_, ?_⟩, ⟨?_, ?_⟩, ⟨?_, ?_⟩, ⟨?_, ?_⟩, ⟨?_, ?_⟩, ⟨?_, ?_⟩, ⟨?_, ?_⟩, ⟨?_, ?_⟩, ⟨?_, ?_⟩, ⟨?_, ?_⟩, trivial⟩
          · rfl
          · rintro ρ f W ⟨vs, us, hX⟩ hfi hw hcl hf
            have f18 : ρ (.tmp 18) = .int .u64 (lg : Int) := hf.1 18 (by simp [Op.operands])
            exact ok_value (v := .int .u64 (lg : Int)) (w' := W) (by simp [execOp, f18]) (hX.pure 0 _ (by decide) (by decide) rfl hX.st)
          · rfl
          · rintro ρ f W ⟨vs, us, hX⟩ hfi hw hcl hf
            have f15 : ρ (.tmp 15) = .pointer (some ⟨BU, 0, none⟩) := hf.1 15 (by simp [Op.operands])
            exact ok_value (v := .pointer (some ⟨BU, 0, none⟩)) (w' := W) (by simp [execOp, f15]) (hX.pure 1 _ (by decide) (by decide) rfl hX.st)
          · rfl
          · rintro ρ f W ⟨vs, us, hX⟩ hfi hw hcl hf
            have f91 : ρ (.tmp 91) = .pointer (some ⟨BU, 0, none⟩) := hX.val 1 _ _ (by decide) (by decide) (hf.1 91 (by simp [Op.operands, Call.operands])) rfl
            obtain ⟨hbe, hm⟩ := hX.st
            refine ok_call (f := 18) (args := #[.pointer (some ⟨BU, 0, none⟩)]) (by simp [execOp, f91, hf.2.2.2, go_sem]) ?_
            have huu : TblAt W BU U := AcS.early hX.st (hX.le1 1 22 rfl (by
              rcases h : f 22 with _ | v
              · rfl
              · have h2 := hcl 3 (hcl 4 (hcl 22 (by rw [h]; rfl) 4 (by decide)) 3 (by decide)) 2 (by decide)
                rw [hfi] at h2; cases h2))
            refine (HLU.out W huu (HT0.out.below HT0.out.pos hbe)).mono ?_
            rintro e w5 ⟨rfl, hb5⟩
            exact ⟨_, rfl, hX.pure 2 _ (by decide) (by decide) rfl (AcS.below hX.st hb5)⟩
          · rfl
          · rintro ρ f W ⟨vs, us, hX⟩ hfi hw hcl hf
            have f90 : ρ (.tmp 90) = .int .u64 (lg : Int) := hX.val 0 _ _ (by decide) (by decide) (hf.1 90 (by simp [Op.operands])) rfl
            have f92 : ρ (.tmp 92) = .int .u64 (lg : Int) := hX.val 2 _ _ (by decide) (by decide) (hf.1 92 (by simp [Op.operands])) rfl
            exact ok_value (v := .bool false) (w' := W) (by simp [execOp, f90, f92, go_sem]) (hX.pure 3 _ (by decide) (by decide) rfl hX.st)
          · rfl
          · rintro ρ f W ⟨vs, us, hX⟩ hfi hw hcl hf
            have f93 : ρ (.tmp 93) = .bool false := hX.val 3 _ _ (by decide) (by decide) (hf.1 93 (by simp [Op.operands])) rfl
            exact ok_value (v := .bool false) (w' := W) (by simp [execOp, f93]) (hX.pure 4 _ (by decide) (by decide) rfl hX.st)
          · rintro f W v ⟨vs, us, hX⟩ hv
            exact hX.val 4 _ _ (by decide) (by decide) hv rfl
          · rintro ρ f W ⟨vs, us, hX⟩ hfi hw hcl hf
            have f13 : ρ (.tmp 13) = .pointer (some ⟨BT, 0, none⟩) := hf.1 13 (by simp [Op.operands])
            exact ok_value (v := .pointer (some ⟨BT, 0, none⟩)) (w' := W) (by simp [execOp, f13]) (hX.pure 5 _ (by decide) (by decide) rfl hX.st)
          · rintro f W v ⟨vs, us, hX⟩ hv
            exact hX.val 4 _ _ (by decide) (by decide) hv rfl
          · rintro ρ f W ⟨vs, us, hX⟩ hfi hw hcl hf
            have f18 : ρ (.tmp 18) = .int .u64 (lg : Int) := hf.1 18 (by simp [Op.operands])
            exact ok_value (v := .int .u64 (lg : Int)) (w' := W) (by simp [execOp, f18]) (hX.pure 6 _ (by decide) (by decide) rfl hX.st)
          · rintro f W v ⟨vs, us, hX⟩ hv
            exact hX.val 4 _ _ (by decide) (by decide) hv rfl
          · rintro ρ f W ⟨vs, us, hX⟩ hfi hw hcl hf
            have f3 : ρ (.tmp 3) = .slice (some ⟨ba, off, none⟩) ll cl := hf.1 3 (by simp [Op.operands])
            exact ok_value (v := .slice (some ⟨ba, off, none⟩) ll cl) (w' := W) (by simp [execOp, f3]) (hX.pure 7 _ (by decide) (by decide) rfl hX.st)
          · rintro f W v ⟨vs, us, hX⟩ hv
            exact hX.val 4 _ _ (by decide) (by decide) hv rfl
          · rintro ρ f W ⟨vs, us, hX⟩ hfi hw hcl hf
            have f17 : ρ (.tmp 17) = .int .i64 (j : Int) := hf.1 17 (by simp [Op.operands])
            exact ok_value (v := .int .i64 (j : Int)) (w' := W) (by simp [execOp, f17]) (hX.pure 8 _ (by decide) (by decide) rfl hX.st)
          · rintro f W v ⟨vs, us, hX⟩ hv
            exact hX.val 4 _ _ (by decide) (by decide) hv rfl
          · rintro ρ f W ⟨vs, us, hX⟩ hfi hw hcl hf
            have f97 : ρ (.tmp 97) = .slice (some ⟨ba, off, none⟩) ll cl := hX.val 7 _ _ (by decide) (by decide) (hf.1 97 (by simp [Op.operands])) rfl
            have f98 : ρ (.tmp 98) = .int .i64 (j : Int) := hX.val 8 _ _ (by decide) (by decide) (hf.1 98 (by simp [Op.operands])) rfl
            exact ok_value (v := .pointer (some ⟨ba, off + j * 3, none⟩)) (w' := W) (by simp [execOp, f97, f98, go_sem, HJ.out.1, HJ.out.2.1]) (hX.pure 9 _ (by decide) (by decide) rfl hX.st)
          · rintro f W v ⟨vs, us, hX⟩ hv
            exact hX.val 4 _ _ (by decide) (by decide) hv rfl
          · rintro ρ f W ⟨vs, us, hX⟩ hfi hw hcl hf
            have f99 : ρ (.tmp 99) = .pointer (some ⟨ba, off + j * 3, none⟩) := hX.val 9 _ _ (by decide) (by decide) (hf.1 99 (by simp [Op.operands])) rfl
            exact ok_value (v := .pointer (some ⟨ba, off + j * 3 + 2, none⟩)) (w' := W) (by simp [execOp, f99, go_sem]) (hX.pure 10 _ (by decide) (by decide) rfl hX.st)
          · rintro f W v ⟨vs, us, hX⟩ hv
            exact hX.val 4 _ _ (by decide) (by decide) hv rfl
          · rintro ρ f W ⟨vs, us, hX⟩ hfi hw hcl hf
            have f100 : ρ (.tmp 100) = .pointer (some ⟨ba, off + j * 3 + 2, none⟩) := hX.val 10 _ _ (by decide) (by decide) (hf.1 100 (by simp [Op.operands])) rfl
            have hca : W.cell? ⟨ba, off + j * 3 + 2, none⟩ = some (.int .u8 (ac : Int)) := (World.cell?_of_block (a := ⟨ba, off + j * 3 + 2, none⟩) (hX.st.1.block ba HCA.out.2)).trans HCA.out.1
            exact ok_value (v := .int .u8 (ac : Int)) (w' := W) (by simp [execOp, f100, go_sem, hca]) (hX.pure 11 _ (by decide) (by decide) rfl hX.st)
          · rintro f W v ⟨vs, us, hX⟩ hv
            exact hX.val 4 _ _ (by decide) (by decide) hv rfl
          · rintro ρ f W ⟨vs, us, hX⟩ hfi hw hcl hf
            have f96 : ρ (.tmp 96) = .int .u64 (lg : Int) := hX.val 6 _ _ (by decide) (by decide) (hf.1 96 (by simp [Op.operands, Call.operands])) rfl
            have f101 : ρ (.tmp 101) = .int .u8 (ac : Int) := hX.val 11 _ _ (by decide) (by decide) (hf.1 101 (by simp [Op.operands, Call.operands])) rfl
            refine ok_call (f := 13) (args := #[.int .u64 (lg : Int), .int .u8 (ac : Int)]) (by simp [execOp, f96, f101, hf.2.2.2, go_sem]) ?_
            refine (HNC.out W).mono ?_
            rintro e w5 ⟨rfl, hb5⟩
            exact ⟨_, rfl, hX.pure 12 _ (by decide) (by decide) rfl (AcS.below hX.st hb5)⟩
          · rintro f W v ⟨vs, us, hX⟩ hv
            exact hX.val 4 _ _ (by decide) (by decide) hv rfl
          · rintro ρ f W ⟨vs, us, hX⟩ hfi hw hcl hf
            have f95 : ρ (.tmp 95) = .pointer (some ⟨BT, 0, none⟩) := hX.val 5 _ _ (by decide) (by decide) (hf.1 95 (by simp [Op.operands, Call.operands])) rfl
            have f102 : ρ (.tmp 102) = .int .u8 (cc : Int) := hX.val 12 _ _ (by decide) (by decide) (hf.1 102 (by simp [Op.operands, Call.operands])) rfl
            have hl := hX.le1 0 13 rfl hfi
            obtain rfl := list0 hl
            obtain ⟨hbe, hr1, hu1⟩ := hX.st
            refine ok_call (f := 16) (args := #[.pointer (some ⟨BT, 0, none⟩), .int .u8 (cc : Int)]) (by simp [execOp, f95, f102, hf.2.2.2, go_sem]) ?_
            refine (HPT.out W hr1 (HT0.out.below HT0.out.pos hbe)).mono ?_
            rintro e w5 ⟨rfl, hr5, hk5⟩
            exact ⟨_, rfl, hX.step1 13 _ rfl (by decide) (by decide) ⟨hbe.trans (hk5.toBelow HBB.out.1 hbe.size), rfl, hr5, hu1.kept (show BU ≠ BT by have := HBB.out; omega) hk5⟩⟩
          · rintro f W v ⟨vs, us, hX⟩ hv
            exact hX.val 4 _ _ (by decide) (by decide) hv rfl
          · rintro ρ f W ⟨vs, us, hX⟩ hfi hw hcl hf
            have f15 : ρ (.tmp 15) = .pointer (some ⟨BU, 0, none⟩) := hf.1 15 (by simp [Op.operands])
            exact ok_value (v := .pointer (some ⟨BU, 0, none⟩)) (w' := W) (by simp [execOp, f15]) (hX.pure 14 _ (by decide) (by decide) rfl hX.st)
          · rintro f W v ⟨vs, us, hX⟩ hv
            exact hX.val 4 _ _ (by decide) (by decide) hv rfl
          · rintro ρ f W ⟨vs, us, hX⟩ hfi hw hcl hf
            have f18 : ρ (.tmp 18) = .int .u64 (lg : Int) := hf.1 18 (by simp [Op.operands])
            exact ok_value (v := .int .u64 (lg : Int)) (w' := W) (by simp [execOp, f18]) (hX.pure 15 _ (by decide) (by decide) rfl hX.st)
          · rintro f W v ⟨vs, us, hX⟩ hv
            exact hX.val 4 _ _ (by decide) (by decide) hv rfl
          · rintro ρ f W ⟨vs, us, hX⟩ hfi hw hcl hf
            have f3 : ρ (.tmp 3) = .slice (some ⟨ba, off, none⟩) ll cl := hf.1 3 (by simp [Op.operands])
            exact ok_value (v := .slice (some ⟨ba, off, none⟩) ll cl) (w' := W) (by simp [execOp, f3]) (hX.pure 16 _ (by decide) (by decide) rfl hX.st)
          · rintro f W v ⟨vs, us, hX⟩ hv
            exact hX.val 4 _ _ (by decide) (by decide) hv rfl
          · rintro ρ f W ⟨vs, us, hX⟩ hfi hw hcl hf
            have f17 : ρ (.tmp 17) = .int .i64 (j : Int) := hf.1 17 (by simp [Op.operands])
            exact ok_value (v := .int .i64 (j : Int)) (w' := W) (by simp [execOp, f17]) (hX.pure 17 _ (by decide) (by decide) rfl hX.st)
          · rintro f W v ⟨vs, us, hX⟩ hv
            exact hX.val 4 _ _ (by decide) (by decide) hv rfl
          · rintro ρ f W ⟨vs, us, hX⟩ hfi hw hcl hf
            have f106 : ρ (.tmp 106) = .slice (some ⟨ba, off, none⟩) ll cl := hX.val 16 _ _ (by decide) (by decide) (hf.1 106 (by simp [Op.operands])) rfl
            have f107 : ρ (.tmp 107) = .int .i64 (j : Int) := hX.val 17 _ _ (by decide) (by decide) (hf.1 107 (by simp [Op.operands])) rfl
            exact ok_value (v := .pointer (some ⟨ba, off + j * 3, none⟩)) (w' := W) (by simp [execOp, f106, f107, go_sem, HJ.out.1, HJ.out.2.1]) (hX.pure 18 _ (by decide) (by decide) rfl hX.st)
          · rintro f W v ⟨vs, us, hX⟩ hv
            exact hX.val 4 _ _ (by decide) (by decide) hv rfl
          · rintro ρ f W ⟨vs, us, hX⟩ hfi hw hcl hf
            have f108 : ρ (.tmp 108) = .pointer (some ⟨ba, off + j * 3, none⟩) := hX.val 18 _ _ (by decide) (by decide) (hf.1 108 (by simp [Op.operands])) rfl
            exact ok_value (v := .pointer (some ⟨ba, off + j * 3 + 2, none⟩)) (w' := W) (by simp [execOp, f108, go_sem]) (hX.pure 19 _ (by decide) (by decide) rfl hX.st)
          · rintro f W v ⟨vs, us, hX⟩ hv
            exact hX.val 4 _ _ (by decide) (by decide) hv rfl
          · rintro ρ f W ⟨vs, us, hX⟩ hfi hw hcl hf
            have f109 : ρ (.tmp 109) = .pointer (some ⟨ba, off + j * 3 + 2, none⟩) := hX.val 19 _ _ (by decide) (by decide) (hf.1 109 (by simp [Op.operands])) rfl
            have hca : W.cell? ⟨ba, off + j * 3 + 2, none⟩ = some (.int .u8 (ac : Int)) := (World.cell?_of_block (a := ⟨ba, off + j * 3 + 2, none⟩) (hX.st.1.block ba HCA.out.2)).trans HCA.out.1
            exact ok_value (v := .int .u8 (ac : Int)) (w' := W) (by simp [execOp, f109, go_sem, hca]) (hX.pure 20 _ (by decide) (by decide) rfl hX.st)
          · rintro f W v ⟨vs, us, hX⟩ hv
            exact hX.val 4 _ _ (by decide) (by decide) hv rfl
          · rintro ρ f W ⟨vs, us, hX⟩ hfi hw hcl hf
            have f105 : ρ (.tmp 105) = .int .u64 (lg : Int) := hX.val 15 _ _ (by decide) (by decide) (hf.1 105 (by simp [Op.operands, Call.operands])) rfl
            have f110 : ρ (.tmp 110) = .int .u8 (ac : Int) := hX.val 20 _ _ (by decide) (by decide) (hf.1 110 (by simp [Op.operands, Call.operands])) rfl
            refine ok_call (f := 13) (args := #[.int .u64 (lg : Int), .int .u8 (ac : Int)]) (by simp [execOp, f105, f110, hf.2.2.2, go_sem]) ?_
            refine (HNC.out W).mono ?_
            rintro e w5 ⟨rfl, hb5⟩
            exact ⟨_, rfl, hX.pure 21 _ (by decide) (by decide) rfl (AcS.below hX.st hb5)⟩
          · rintro f W v ⟨vs, us, hX⟩ hv
            exact hX.val 4 _ _ (by decide) (by decide) hv rfl
          · rintro ρ f W ⟨vs, us, hX⟩ hfi hw hcl hf
            have f104 : ρ (.tmp 104) = .pointer (some ⟨BU, 0, none⟩) := hX.val 14 _ _ (by decide) (by decide) (hf.1 104 (by simp [Op.operands, Call.operands])) rfl
            have f111 : ρ (.tmp 111) = .int .u8 (cc : Int) := hX.val 21 _ _ (by decide) (by decide) (hf.1 111 (by simp [Op.operands, Call.operands])) rfl
            have hl := hX.le1 1 22 rfl hfi
            have hx13 : (f 13).isSome = true := hcl 21 (hw 21 (by decide)) 13 (by decide)
            obtain ⟨x13, hx13⟩ := Option.isSome_iff_exists.1 hx13
            have hvs := list1 hl (hX.get1 0 13 rfl hx13)
            have hst := hX.st
            rw [hvs] at hst
            obtain ⟨hbe, h13, hr1, hu1⟩ := hst
            refine ok_call (f := 16) (args := #[.pointer (some ⟨BU, 0, none⟩), .int .u8 (cc : Int)]) (by simp [execOp, f104, f111, hf.2.2.2, go_sem]) ?_
            refine (HPU.out W hu1 (HT0.out.below HT0.out.pos hbe)).mono ?_
            rintro e w5 ⟨rfl, hu5, hk5⟩
            refine ⟨_, rfl, hX.step1 22 _ (by rw [hvs]; rfl) (by decide) (by decide) ?_⟩
            rw [hvs]
            exact ⟨hbe.trans (hk5.toBelow HBB.out.2.1 hbe.size), h13, rfl, hr1.kept (show BT ≠ BU by have := HBB.out; omega) hk5, hu5⟩
          · rintro f W v ⟨vs, us, hX⟩ hv
            exact hX.val 4 _ _ (by decide) (by decide) hv rfl
          · rintro ρ f W ⟨vs, us, hX⟩ hfi hw hcl hf
            have g103 := hX.get1 0 13 rfl (hf.1 103 (by simp [Op.operands]))
            have g112 := hX.get1 1 22 rfl (hf.1 112 (by simp [Op.operands]))
            obtain ⟨h1, h2⟩ := AcS.both hX.st g103 g112
            exact ok_value (v := .bool false) (w' := W) (by simp [execOp, h1, h2, go_sem]) (hX.pure 23 _ (by decide) (by decide) rfl hX.st)
          · rfl
          · rintro ρ f W ⟨vs, us, hX⟩ hfi hw hcl hf
            have f94 : ρ (.tmp 94) = .bool false := hX.val 4 _ _ (by decide) (by decide) (hf.1 94 (by simp [Op.operands])) rfl
            have f113 : ρ (.tmp 113) = .bool false := hX.val 23 _ _ (by decide) (by decide) (hf.1 113 (by simp [Op.operands])) rfl
            exact ok_value (v := .bool false) (w' := W) (by simp [execOp, f94, f113, hf.2.1, go_sem]) (hX.pure 24 _ (by decide) (by decide) rfl hX.st)
        case fini =>
          rintro us w20 hlen ⟨vs, us', hX⟩
          have hl0 : us.length = 25 := hlen
          match us, hl0 with
          | [y0, y1, y2, y3, y4, y5, y6, y7, y8, y9, y10, y11, y12, y13, y14, y15, y16, y17, y18, y19, y20, y21, y22, y23, y24], _ =>
            have hst := hX.st
            obtain ⟨z0, hvs⟩ := list2 hX.l1 (hX.get1 1 22 rfl (v := y22) rfl)
            have hy : y24 = .bool false := hX.val 24 _ _ (by decide) (by decide) rfl rfl
            subst hy
            rw [hvs] at hst
            obtain ⟨hb20, -, -, hr20, hu20⟩ := hst
            have HR20 := Lib.hid hr20
            have HU20 := Lib.hid hu20
            have HB20 := Lib.hid hb20
            clear hX hvs hr20 hu20 hb20 hlen
            simp only [putAll, List.zip_cons_cons, List.zip_nil_right, List.foldl_cons, List.foldl_nil]
            simp only [Act.put, List.setIfInBounds_toArray, List.set_cons_succ, List.set_cons_zero]
            go_upto_region 19 with fail
            obtain ⟨SB, hSB⟩ : ∃ SB, SB = (U'.by dc).cells := ⟨_, rfl⟩
            obtain ⟨SU, hSU⟩ : ∃ SU, SU = U'.cells := ⟨_, rfl⟩
            have HZB : Hid ((Tryd.prog.info? 45).map (·.size) = some SB.size ∧ SB.size = 24 ∧ SB.all (·.oneCell') = true) := Lib.hid (by rw [hSB]; exact ⟨size_st, rfl, by simp [Value.oneCell']⟩)
            have HZU : Hid ((Tryd.prog.info? 45).map (·.size) = some SU.size ∧ SU.size = 24 ∧ SU.all (·.oneCell') = true) := Lib.hid (by rw [hSU]; exact ⟨size_st, rfl, by simp [Value.oneCell']⟩)
            have HSB := Lib.hid hSB
            have HSU := Lib.hid hSU
            have hnq := neq_self (U'.by dc) hSB
            clear hSB hSU
            go_wp2_with fail
            refine (tb_State HD.out (HIU'.out.by hdc4) HR20.out HSB.out).mono ?_
            rintro e w21 ⟨rfl, hb⟩
            have HB21 := Lib.hid (HB20.out.trans (hb.mono HB20.out.size))
            have HR21 := Lib.hid (HR20.out.below HR20.out.lt hb)
            have HU21 := Lib.hid (HU20.out.below HU20.out.lt hb)
            clear hb
            go_wp2_with fail
            refine (tb_State HD.out HIU'.out HU21.out HSU.out).mono ?_
            rintro e w22 ⟨rfl, hb⟩
            have HB22 := Lib.hid (HB21.out.trans (hb.mono HB21.out.size))
            have HR22 := Lib.hid (HR21.out.below HR21.out.lt hb)
            have HU22 := Lib.hid (HU21.out.below HU21.out.lt hb)
            clear hb
            have n19 : Row ((w22.alloc (.cells zst 45)).alloc (.cells zst 45)) w22.heap.size 45 zst := (Row.new _ _ _).alloc _
            have n20 : Row ((w22.alloc (.cells zst 45)).alloc (.cells zst 45)) (w22.heap.size + 1) 45 zst := by have h := Row.new (w22.alloc (.cells zst 45)) 45 zst; rwa [World.size_alloc] at h
            have n20' := n20.same (setRow_other ((w22.alloc (.cells zst 45)).alloc (.cells zst 45)) w22.heap.size (w22.heap.size + 1) SB (by omega))
            go_upto_region 20 with (first
              | refine wpList_store_row rfl 45 (.tmp 19) (.tmp 116) rfl w22.heap.size SB rfl rfl 45 _ n19 HZB.out.1 (by rw [HZB.out.2.1]; rfl) HZB.out.2.2 ?_
              | refine wpList_store_row rfl 45 (.tmp 20) (.tmp 118) rfl (w22.heap.size + 1) SU rfl rfl 45 _ n20' HZU.out.1 (by rw [HZU.out.2.1]; rfl) HZU.out.2.2 ?_)
            have hbz := (((Below.refl w22.heap.size w22).alloc (Nat.le_refl _) (.cells zst 45)).alloc (by simp) (.cells zst 45))
            have hb24 := below_setRow (below_setRow hbz (Nat.le_refl _) SB) (show w22.heap.size ≤ w22.heap.size + 1 by omega) SU
            have r19 := (setRow_heap ((w22.alloc (.cells zst 45)).alloc (.cells zst 45)) w22.heap.size _ SB _ _ n19)
            have r20 := (setRow_heap (((w22.alloc (.cells zst 45)).alloc (.cells zst 45)).setRow w22.heap.size SB) (w22.heap.size + 1) _ SU _ _ n20')
            have r19' : Row _ w22.heap.size 45 SB := Row.same r19 (setRow_other (((w22.alloc (.cells zst 45)).alloc (.cells zst 45)).setRow w22.heap.size SB) (w22.heap.size + 1) w22.heap.size SU (by omega))
            have r20' : Row _ (w22.heap.size + 1) 45 SU := r20
            change Code.wp _ _ _ _ ((((w22.alloc (.cells zst 45)).alloc (.cells zst 45)).setRow w22.heap.size SB).setRow (w22.heap.size + 1) SU)
            clear n19 n20 n20' hbz r19 r20
            generalize (((w22.alloc (.cells zst 45)).alloc (.cells zst 45)).setRow w22.heap.size SB).setRow (w22.heap.size + 1) SU = w24 at *
            have HB24 := Lib.hid (HB22.out.trans (hb24.mono HB22.out.size))
            have HR24 := Lib.hid (HR22.out.below HR22.out.lt hb24)
            have HU24 := Lib.hid (HU22.out.below HU22.out.lt hb24)
            have HNB : Hid (BT < w22.heap.size ∧ BU < w22.heap.size ∧ w.heap.size ≤ w22.heap.size) := Lib.hid ⟨HR22.out.lt, HU22.out.lt, HB22.out.size⟩
            clear hb24
            obtain ⟨b19, hb19⟩ : ∃ b, w22.heap.size = b := ⟨_, rfl⟩
            rw [hb19] at r19' r20' HNB ⊢
            clear hb19
            have HR19 := Lib.hid r19'
            have HR20' := Lib.hid r20'
            have c9 : w24.cell? ⟨b19 + 1, 9, none⟩ = some (.int .u8 (U'.dc : Int)) := by rw [r20'.cell, HSU.out]; rfl
            have f9 := r20'.frozen 9
            clear r19' r20'
            go_upto_region 21 with fail
            have r19 := HR19.out.other (B' := b19 + 1) (i := 9) (v := .int .u8 (dc : Int)) (by omega)
            have r20 : Row (w24.setCell ⟨b19 + 1, 9, none⟩ (.int .u8 (dc : Int))) (b19 + 1) 45 SB := by
              have h := HR20'.out.set 9 (.int .u8 (dc : Int))
              rw [HSU.out, st_dset] at h
              rw [HSB.out]; exact h
            have HR25 := Lib.hid (HR24.out.other (B' := b19 + 1) (i := 9) (v := .int .u8 (dc : Int)) (by have := HNB.out; omega))
            have HU25 := Lib.hid (HU24.out.other (B' := b19 + 1) (i := 9) (v := .int .u8 (dc : Int)) (by have := HNB.out; omega))
            have HB25 := Lib.hid (HB24.out.setCell (p := ⟨b19 + 1, 9, none⟩) (show w.heap.size ≤ b19 + 1 by have := HNB.out; omega) (.int .u8 (dc : Int)))
            have HR19' := Lib.hid r19
            have HR20'' := Lib.hid r20
            clear r19 r20 c9 f9
            generalize w24.setCell ⟨b19 + 1, 9, none⟩ (.int .u8 (dc : Int)) = w25 at *
            go_wp2_with (first
              | refine wpList_load_row rfl 45 (.tmp 19) rfl b19 rfl 45 SB (0, 0) _ HR19'.out Tryd.underlying45 rfl HZB.out.1 ?_
              | refine wpList_load_row rfl 45 (.tmp 20) rfl (b19 + 1) rfl 45 SB (0, 0) _ HR20''.out Tryd.underlying45 rfl HZB.out.1 ?_)
            go_roundw
            case rel => exact ⟨(j + 1) + 1, by omega, by go_num, by rw [show (j + 1) + 1 - 1 = (j + 1) by omega, HU'.out]; exact HR25.out, by rw [show (j + 1) + 1 - 1 = (j + 1) by omega, HU'.out]; exact HU25.out, HB25.out⟩
            case measure => simp [intOf]; omega
    · obtain rfl : k = m + 1 := by omega
      have hkm : decide (((m + 1 : Nat) : Int) - 1 < (m : Int)) = false := by rw [decide_eq_false_iff_not]; omega
      go_wp2_with fail
      go_ret
      exact ⟨rfl, hB⟩
end Go.Proofs.YtgnlmodaekfhfaaDoor
