/- finesselaw14.LeadKeeps over this seat's program. -/
import Derived.Test.YtgnlmodaekfhfaaDoorMLdr
import Derived.Test.YtgnlmodaekfhfaaDoorMAct
import Derived.Deep.Cut
import Derived.Deep.CutRange
import Derived.Deep.LoopGhost
namespace Go.Proofs.YtgnlmodaekfhfaaDoor
open Go.RowKit Go.Shelf Go.Sort

attribute [-go_sem] run_equalIn_agg run_neq_struct
theorem neq_selfK (s : St) {SA : Array Value} (h : SA = s.cells) (w : World) : Sem.run Tryd.prog (binOp .neq 45 (.agg SA) (.agg SA)) w = .ok (.bool false) w := by
  have hs : s.same s = true := by unfold St.same; simp
  rw [h, neq_cells s s rfl, hs]; rfl
theorem OwnA.keptB {w w' : World} {base g n cap B : Nat} {l : List AcT} (h : OwnA w base (.slice (some ⟨g, 0, none⟩) n cap) l) (hk : Kept (fun k => k ≠ B) w w') (hne : g ≠ B) : OwnA w' base (.slice (some ⟨g, 0, none⟩) n cap) l :=
  Owns.kept (row := some B) h ⟨hk.os, hk.tape, hk.output, hk.size, fun i hi hn => hk.block i (fun e => hn (by rw [e])) hi⟩ (.inl (fun e => hne (by simpa [Value.ownBlock] using e.symm)))
/-- between the acts -/
structure KpS (d : Nat → Nat) (S0 : St) (L : List AcT) (B bd bg base n0 : Nat) (DA : Array Value) (v : Value) (w : World) (k : Nat) (wr : World) : Prop where
  tbl : TblAt wr B (runV S0 (L.take k))
  own : OwnA wr base v L
  gone : ∃ g, GoneOk d (runV S0 (L.take k)) g ∧ Row wr bg 29 (arr4 g)
  deal : Row wr bd 29 DA
  bl : Below w.heap.size w wr
set_option maxHeartbeats 4000000 in
set_option maxRecDepth 10000 in
theorem law_LeadKeeps (x : Sk) (ao : Option Addr) (lo co : Nat) (al : Option Addr) (ll cl : Nat) (zs : List AcT) (w : World) (hx0 : x.size < 256) (hx1 : x.trumps < 256) (hx2 : x.decl < 256) (hz : Byt w ao lo x.order) (hzl : Acts w al ll zs) (hll : ll ≤ cl) (hT : Tab w) :
    Calls Tryd.prog 5 #[.agg (x.cells ao lo co), .slice al ll cl] w fun e w' => e = .returned (.bool true) ∧ Below w.heap.size w w' := by
  have HT0 := Lib.hid hT
  have hd := x.deal
  have HMK := Lib.hid (fun (W : World) (hb : Below w.heap.size w W) => law_Made x ao lo co W (hz.below (Nat.le_refl _) hb) hx0 hx1 hx2)
  obtain ⟨tm, htm⟩ : ∃ tm, x.trumps % 5 = tm := ⟨_, rfl⟩
  obtain ⟨dc, hdc⟩ : ∃ dc, x.decl % 4 = dc := ⟨_, rfl⟩
  have htm4 : tm ≤ 4 := by omega
  have hdc4 : dc < 4 := by omega
  rw [htm, hdc] at HMK
  have hnle := x.n_le.2
  have hw64 := x.w64
  generalize x.h = d at *
  generalize x.n = n at *
  have HD := Lib.hid hd
  have HW64 := Lib.hid (fun (i : Nat) (hi : i < 4) => w64_52 (hd.lt i hi))
  obtain ⟨DA, hDA⟩ : ∃ DA, DA = arr4 d := ⟨_, rfl⟩
  have HDA := Lib.hid hDA
  have HDZ : Hid ((Tryd.prog.info? 29).map (·.size) = some DA.size ∧ DA.size = 4 ∧ DA.all (·.oneCell') = true) := Lib.hid (by rw [hDA]; exact ⟨size_deal14, rfl, by simp [arr4, Value.oneCell']⟩)
  rw [← hDA] at HMK
  obtain ⟨XC, hXC⟩ : ∃ XC, XC = x.cells ao lo co := ⟨_, rfl⟩
  have HXZ : Hid ((Tryd.prog.info? 24).map (·.size) = some XC.size) := Lib.hid (by rw [hXC]; exact size_sk14)
  rw [← hXC] at HMK ⊢
  clear hXC hDA hT hz htm hdc hd
  have HNW := Lib.hid (fun W => ld_New_ok HD.out hw64 tm dc htm4 (by omega) W)
  have hda : #[.int .u64 (d 0 : Int), .int .u64 (d 1 : Int), .int .u64 (d 2 : Int), .int .u64 (d 3 : Int)] = DA := HDA.out.symm
  rw [hda] at HNW
  clear hda hw64
  have i0 := SInv.new HD.out (tm := tm) (dc := dc) htm4 hdc4
  have hgs := gone_start d tm dc
  obtain ⟨S0, hS0⟩ : ∃ S0, St.new d tm dc = S0 := ⟨_, rfl⟩
  rw [hS0] at i0 HNW hgs
  have HI0 := Lib.hid i0
  have HGS := Lib.hid hgs
  clear i0 hS0 hgs
  have HAC := Lib.hid hzl
  have hlen := hzl.length
  have hsmall := hzl.small
  clear hzl
  have hb0 := (Below.refl w.heap.size w).alloc (Nat.le_refl _) (.cells XC 24)
  have hx0' : Row (w.alloc (.cells XC 24)) w.heap.size 24 XC := Row.new _ _ _
  go_enter Tryd.func5, Tryd.ntmps5
  go_upto_region 1 with fail
  generalize w.alloc (.cells XC 24) = w0 at *
  obtain ⟨bx, hbx⟩ : ∃ bx, w.heap.size = bx := ⟨_, rfl⟩
  have HB0 := Lib.hid hb0
  have HX0 := Lib.hid hx0'
  rw [hbx] at HX0
  have HBX := Lib.hid hbx
  clear hb0 hx0'
  rw [hbx]
  clear hbx
  have HT1 := Lib.hid (HT0.out.below HT0.out.pos HB0.out)
  go_wp2_with fail
  refine (law_awake14 _ HT1.out).mono ?_
  rintro e w1 ⟨rfl, hb⟩
  have HB1 := Lib.hid (HB0.out.trans (hb.mono HB0.out.size))
  have HX1 := Lib.hid (HX0.out.below HX0.out.lt hb)
  clear hb
  go_wp2_with (refine wpList_load_row rfl 24 (.tmp 2) rfl bx rfl 24 XC (0, 0) _ HX1.out Tryd.underlying24 rfl HXZ.out ?_)
  refine (HMK.out w1 HB1.out).mono ?_
  rintro e w2 ⟨rfl, hb⟩
  have HB2 := Lib.hid (HB1.out.trans (hb.mono HB1.out.size))
  clear hb
  go_upto_region 4 with (refine wpList_store_row rfl 29 (.tmp 5) (.tmp 27) rfl w2.heap.size DA rfl rfl 29 _ (Row.new _ _ _) HDZ.out.1 (by rw [HDZ.out.2.1]; rfl) HDZ.out.2.2 ?_)
  have hb3 := below_setRow (HB2.out.alloc HB2.out.size (.cells #[.int .u64 0, .int .u64 0, .int .u64 0, .int .u64 0] 29)) HB2.out.size DA
  have hr3 : Row ((w2.alloc (.cells #[.int .u64 0, .int .u64 0, .int .u64 0, .int .u64 0] 29)).setRow w2.heap.size DA) w2.heap.size 29 DA := setRow_heap _ _ _ _ _ _ (Row.new _ _ _)
  generalize (w2.alloc (.cells #[.int .u64 0, .int .u64 0, .int .u64 0, .int .u64 0] 29)).setRow w2.heap.size DA = w3 at *
  obtain ⟨bd, hbd⟩ : ∃ bd, w2.heap.size = bd := ⟨_, rfl⟩
  have HBD : Hid (w.heap.size ≤ bd) := Lib.hid (by rw [← hbd]; exact HB2.out.size)
  rw [hbd] at hr3 ⊢
  have HB3 := Lib.hid hb3
  have HD3 := Lib.hid hr3
  have HT3 := Lib.hid (HT0.out.below HT0.out.pos HB3.out)
  clear hb3 hr3 hbd
  go_wp2_with (refine wpList_load_row rfl 29 (.tmp 5) rfl bd rfl 29 DA (0, 0) _ HD3.out Tryd.underlying29 rfl HDZ.out.1 ?_)
  refine (HNW.out w3).mono ?_
  rintro e w4 ⟨B, rfl, hBB, hr, hb⟩
  have HBR : Hid (w.heap.size ≤ B) := Lib.hid (Nat.le_trans HB3.out.size hBB)
  have HNDR : Hid (bd < B) := Lib.hid (Nat.lt_of_lt_of_le HD3.out.lt hBB)
  have HB4 := Lib.hid (HB3.out.trans (hb.mono HB3.out.size))
  have HR4 := Lib.hid hr
  have HD4 := Lib.hid (HD3.out.below HD3.out.lt hb)
  have HT4 := Lib.hid (HT0.out.below HT0.out.pos HB4.out)
  clear hb hr hBB
  obtain ⟨m, hm⟩ : ∃ m, m = min ll 60 := ⟨_, rfl⟩
  have hm1 : m ≤ ll := by omega
  have hm2 : m ≤ 60 := by omega
  have hmc : (m : Int) ≤ (cl : Int) := by omega
  have hm0 : (0 : Int) ≤ (m : Int) := by omega
  have hmI : (if (60 : Int) < (ll : Int) then (60 : Int) else (ll : Int)) = (m : Int) := by split <;> omega
  have HM := Lib.hid hm
  clear hm
  go_upto_region 7 with fail
  go_cut [1] from 43 to 49 (fun v wx => OwnA wx w4.heap.size v (zs.take m) ∧ Below w4.heap.size w4 wx)
  case first =>
    have HOM := Lib.hid (ownA_made0 w4 w4.heap.size (Nat.le_refl _))
    have HBM := Lib.hid ((Below.refl w4.heap.size w4).alloc (Nat.le_refl _) (.cells #[] 41))
    by_cases h0 : ll = 0
    · subst h0
      obtain rfl : m = 0 := by omega
      clear hmI hmc hm0 hm1 hm2
      have hnil : zs.take 0 = [] := rfl
      obtain ⟨i0, hi, hz0, hz1, hz2⟩ := info_parts info_act
      have hsrc : Src Tryd.prog i0.size 25 (.slice al 0 cl) 0 [] (w4.alloc (.cells #[] 41)) := src_empty Tryd.underlying25 al cl _
      have HSRC := Lib.hid hsrc
      clear hsrc
      go_wp2_with (at_builtin; go_loud (refine wpList_append_nothing rfl (.tmp 43) (.tmp 48) 25 rfl 41 i0 Tryd.underlying25 hi (some ⟨w4.heap.size, 0, none⟩) 0 0 (Nat.le_refl _) rfl _ rfl HSRC.out ?_))
      go_meet
      exact ⟨HOM.out, HBM.out⟩
    · obtain ⟨ad, had⟩ : ∃ ad, al = some ad := by
        rcases HAC.out.cells with h | ⟨b, off, h, _⟩
        · omega
        · exact ⟨_, h⟩
      subst had
      have h0 : 0 < m := by have := HM.out; omega
      have hac4 := (HAC.out.below HB4.out).below HBM.out
      have hrow := acts_row hac4 hm1 h0
      have HROW := Lib.hid hrow
      have hlt : (zs.take m).length = m := by rw [List.length_take]; omega
      have HLT := Lib.hid hlt
      clear hac4 hrow hlt h0
      go_wp2_with (at_builtin; refine appA rfl (.tmp 43) (.tmp 48) rfl w4.heap.size _ [] (zs.take m) rfl HOM.out ad m cl rfl HLT.out HROW.out (by simp; omega) (by rw [World.size_alloc]; omega) ?_; intro v' w' ho' hb' _ _)
      go_meet
      exact ⟨ho', HBM.out.trans hb'⟩
  obtain ⟨hown, hbw⟩ := hcut
  have HOW := Lib.hid hown
  have HBW := Lib.hid hbw
  clear hown hbw hmI hmc hm0
  go_wp2_with fail
  go_loopw [1, 50] (fun v i wr => ∃ k : Nat, k ≤ 20 ∧ i = .int .i64 (k : Int) ∧ OwnA wr w4.heap.size v (zs.take m ++ endA k) ∧ Below w4.heap.size w4 wr) (fun _ i _ => 20 - (intOf i).toNat)
  case atStart => exact ⟨0, by omega, rfl, by rw [show endA 0 = [] from rfl, List.append_nil]; exact HOW.out, HBW.out⟩
  case round =>
    obtain ⟨k, hk, rfl, how, hB⟩ := hrel
    by_cases hlt : k < 20
    · have hlen2 : (zs.take m ++ endA k).length ≤ 1000 := by rw [List.length_append, List.length_take, endA_len]; omega
      have HSX : Hid (zs.take m ++ endA (k + 1) = (zs.take m ++ endA k) ++ [accA, zeroA]) := Lib.hid (by rw [endA, List.append_assoc])
      generalize zs.take m ++ endA k = L at *
      obtain ⟨av, cv, rfl, -⟩ := how.slice
      have HL2 := Lib.hid hlen2
      clear hlen2
      have HSZ := Lib.hid hB.size
      have hrow2 : ∀ j u, (([accA, zeroA] : List AcT).flatMap encA)[j]? = some u → (wr.alloc (.cells #[.int .u8 6, .int .u8 0, .int .u8 0, .int .u8 0, .int .u8 0, .int .u8 0] 41)).cell? ((⟨wr.heap.size, 0, none⟩ : Addr).add j) = some u :=
        cells_new wr [.int .u8 6, .int .u8 0, .int .u8 0, .int .u8 0, .int .u8 0, .int .u8 0] 41
      have HROW2 := Lib.hid hrow2
      clear hrow2
      go_wp2_with (at_builtin; refine appA rfl (.tmp 52) (.tmp 55) rfl w4.heap.size _ L [accA, zeroA] rfl (how.alloc _) ⟨wr.heap.size, 0, none⟩ 2 2 rfl rfl HROW2.out (by have := HL2.out; omega) (by rw [World.size_alloc]; have := HSZ.out; omega) ?_; intro v' w10 hown' hB10 _ _)
      go_roundw
      case rel => exact ⟨k + 1, by omega, by go_num, by rw [HSX.out]; exact hown', (hB.alloc hB.size _).trans hB10⟩
      case measure => simp [intOf]; omega
    · obtain rfl : k = 20 := by omega
      obtain ⟨N, hN⟩ : ∃ N, N = m + 40 := ⟨_, rfl⟩
      have hLl : (zs.take m ++ endA 20).length = N := by rw [List.length_append, List.length_take, endA_len, hN]; omega
      have hLok : ∀ (i : Nat) x, (zs.take m ++ endA 20)[i]? = some x → x.ok := by
        intro i x hx
        have hmem := List.mem_of_getElem? hx
        rcases List.mem_append.1 hmem with h | h
        · obtain ⟨j, hj⟩ := List.getElem?_of_mem (List.mem_of_mem_take h)
          exact HAC.out.ok j x hj
        · have : ∀ k, ∀ y ∈ endA k, y = accA ∨ y = zeroA := by
            intro k
            induction k with
            | zero => intro y hy; cases hy
            | succ k ih =>
              intro y hy
              rcases List.mem_append.1 hy with hy | hy
              · exact ih y hy
              · simpa using hy
          rcases this 20 x h with rfl | rfl
          · exact ⟨by decide, by decide, by decide⟩
          · exact ⟨by decide, by decide, by decide⟩
      have hend : Ended n (runV S0 (zs.take m ++ endA 20)) := by
        rw [runV_append]
        exact ended HD.out hnle (SInv.run HD.out (zs.take m) S0 HI0.out)
      obtain ⟨L, hL⟩ : ∃ L, zs.take m ++ endA 20 = L := ⟨_, rfl⟩
      rw [hL] at hLl hLok hend how
      have HLO := Lib.hid hLok
      have HEN := Lib.hid hend
      have HLL := Lib.hid hLl
      obtain ⟨av, cv, rfl, hav⟩ := how.slice
      obtain ⟨ga, hga⟩ := hav (by intro e; rw [e] at hLl; simp at hLl; omega)
      subst hga
      rw [hLl] at how ⊢
      have HOW2 := Lib.hid how
      have HB5 := Lib.hid hB
      have hN1 : 40 ≤ N := by omega
      have hN2 : N ≤ 100 := by omega
      have HD5 := Lib.hid (HD4.out.below HD4.out.lt hB)
      have HR5 := Lib.hid (HR4.out.below HR4.out.lt hB)
      clear how hB hL hLok hend hLl hN hlt hk hll
      go_wp2_with fail
      have HOW3 := Lib.hid (HOW2.out.alloc (.cells (arr4 (fun _ => 0)) 29))
      have HD6 := Lib.hid (HD5.out.alloc (.cells (arr4 (fun _ => 0)) 29))
      have HR6 := Lib.hid (HR5.out.alloc (.cells (arr4 (fun _ => 0)) 29))
      have HG6 := Lib.hid (Row.new wr 29 (arr4 (fun _ => 0)))
      have HB6 := Lib.hid (((HB4.out.trans (HB5.out.mono HB4.out.size))).alloc (Nat.le_trans HB4.out.size HB5.out.size) (.cells (arr4 (fun _ => 0)) 29))
      have HGA : Hid (w4.heap.size ≤ ga ∧ ga < wr.heap.size) := Lib.hid (by
        rcases HOW2.out.form with ⟨h, _⟩ | ⟨g', c', h, h1, h2, _⟩
        · cases h
        · simp only [Value.slice.injEq, Option.some.injEq, Addr.mk.injEq, and_true] at h
          obtain ⟨rfl, _⟩ := h
          exact ⟨h1, h2⟩)
      have HBS : Hid (B < w4.heap.size ∧ bd < w4.heap.size ∧ w4.heap.size ≤ wr.heap.size ∧ w.heap.size ≤ w4.heap.size) := Lib.hid ⟨HR4.out.lt, HD4.out.lt, HB5.out.size, HB4.out.size⟩
      obtain ⟨bg, hbg⟩ : ∃ bg, wr.heap.size = bg := ⟨_, rfl⟩
      have HGN : Hid (ga ≠ B ∧ ga ≠ bg ∧ bd ≠ B ∧ bd ≠ bg ∧ B ≠ bg ∧ w.heap.size ≤ bg) := Lib.hid (by have := HGA.out; have := HBS.out; have := HNDR.out; omega)
      rw [hbg] at HG6 ⊢
      have HI6 : Hid (KpS d S0 L B bd bg w4.heap.size n DA (.slice (some ⟨ga, 0, none⟩) N cv) w 0 (wr.alloc (.cells (arr4 (fun _ => 0)) 29))) := Lib.hid ⟨HR6.out, HOW3.out, ⟨fun _ => 0, HGS.out, HG6.out⟩, HD6.out, HB6.out⟩
      have HBGL : Hid (bg < (wr.alloc (.cells (arr4 (fun _ => 0)) 29)).heap.size) := Lib.hid HG6.out.lt
      clear hbg
      change Code.wp _ _ _ _ (wr.alloc (.cells (arr4 (fun _ => 0)) 29))
      generalize wr.alloc (.cells (arr4 (fun _ => 0)) 29) = w6 at *
      go_loopg [60] N (fun gk i wr => ∃ k : Nat, gk = N - k ∧ k ≤ N ∧ i = .int .i64 (k : Int) ∧ KpS d S0 L B bd bg w4.heap.size n DA (.slice (some ⟨ga, 0, none⟩) N cv) w k wr)
      case atStart => exact ⟨0, by omega, by omega, rfl, HI6.out⟩
      case round =>
        obtain ⟨k, rfl, hk, rfl, hK⟩ := hrel
        by_cases hlt : k < N
        · obtain ⟨hr, how, ⟨g, hgo, hgr⟩, hdl, hB⟩ := hK
          have hkl : k < L.length := by rw [HLL.out]; exact hlt
          have hse : runV S0 (L.take (k + 1)) = (doesV (runV S0 (L.take k)) L[k]).1.1 := runV_take S0 L k hkl
          have hix := SInv.run HD.out (L.take k) S0 HI0.out
          have hok := HLO.out k _ (List.getElem?_eq_getElem hkl)
          have hc0 := fun j hj => Owns.cell how k j hj (List.getElem?_eq_getElem hkl)
          obtain ⟨a, ha⟩ : ∃ a, L[k] = a := ⟨_, rfl⟩
          rw [ha] at hse hok hc0
          generalize runV S0 (L.take k) = s at *
          have c0 := hc0 0 (by omega)
          have c1 := hc0 1 (by omega)
          have c2 := hc0 2 (by omega)
          simp only [List.getElem?_cons_zero, List.getElem?_cons_succ, Nat.add_zero] at c0 c1 c2
          have HSE := Lib.hid hse
          have HIX := Lib.hid hix
          have HOK := Lib.hid hok
          have HGO := Lib.hid hgo
          have HR0 := Lib.hid hr
          have HOW0 := Lib.hid how
          have HGR0 := Lib.hid hgr
          have HDL0 := Lib.hid hdl
          have HBL0 := Lib.hid hB
          have hkN : (k : Int) < (N : Int) := by omega
          clear hse hix hok hc0 ha hgo hr how hgr hdl hB
          go_upto_region 16 with fail
          have hb := (Below.refl wr.heap.size wr).alloc (Nat.le_refl _) (.cells a.cells 41)
          have hra : Row (wr.alloc (.cells a.cells 41)) wr.heap.size 41 a.cells := Row.new _ _ _
          generalize wr.alloc (.cells a.cells 41) = w7 at *
          have HR7 := Lib.hid (HR0.out.below HR0.out.lt hb)
          have HOW7 := Lib.hid (HOW0.out.below hb)
          have HGR7 := Lib.hid (HGR0.out.below HGR0.out.lt hb)
          have HDL7 := Lib.hid (HDL0.out.below HDL0.out.lt hb)
          have HBL7 := Lib.hid (HBL0.out.trans (hb.mono HBL0.out.size))
          have HLTS : Hid (B < wr.heap.size ∧ bg < wr.heap.size ∧ bd < wr.heap.size ∧ w.heap.size ≤ wr.heap.size) := Lib.hid ⟨HR0.out.lt, HGR0.out.lt, HDL0.out.lt, HBL0.out.size⟩
          obtain ⟨bt, hbt⟩ : ∃ bt, wr.heap.size = bt := ⟨_, rfl⟩
          rw [hbt] at hra HLTS ⊢
          have HRA7 := Lib.hid hra
          clear hb hra hbt c0 c1 c2
          obtain ⟨SA, hSA⟩ : ∃ SA, SA = s.cells := ⟨_, rfl⟩
          have HZA : Hid ((Tryd.prog.info? 45).map (·.size) = some SA.size ∧ SA.size = 24 ∧ SA.all (·.oneCell') = true) := Lib.hid (by rw [hSA]; exact ⟨size_st, rfl, by simp [Value.oneCell']⟩)
          have HSA := Lib.hid hSA
          clear hSA
          go_wp2_with fail
          refine (tb_State HD.out HIX.out HR7.out HSA.out).mono ?_
          rintro e w8 ⟨rfl, hb⟩
          have HR8 := Lib.hid (HR7.out.below HR7.out.lt hb)
          have HOW8 := Lib.hid (HOW7.out.below hb)
          have HGR8 := Lib.hid (HGR7.out.below HGR7.out.lt hb)
          have HDL8 := Lib.hid (HDL7.out.below HDL7.out.lt hb)
          have HBL8 := Lib.hid (HBL7.out.trans (hb.mono HBL7.out.size))
          have HRA8 := Lib.hid (HRA7.out.below HRA7.out.lt hb)
          clear hb
          go_upto_region 17 with (refine wpList_store_row rfl 45 (.tmp 13) (.tmp 65) rfl w8.heap.size SA rfl rfl 45 _ (Row.new _ _ _) HZA.out.1 (by rw [HZA.out.2.1]; rfl) HZA.out.2.2 ?_)
          have hb := below_setRow ((Below.refl w8.heap.size w8).alloc (Nat.le_refl _) (.cells zst 45)) (Nat.le_refl _) SA
          have hrw : Row ((w8.alloc (.cells zst 45)).setRow w8.heap.size SA) w8.heap.size 45 SA := setRow_heap _ _ _ _ _ _ (Row.new _ _ _)
          change Code.wp _ _ _ _ ((w8.alloc (.cells zst 45)).setRow w8.heap.size SA)
          generalize (w8.alloc (.cells zst 45)).setRow w8.heap.size SA = w9 at *
          have HR9 := Lib.hid (HR8.out.below HR8.out.lt hb)
          have HOW9 := Lib.hid (HOW8.out.below hb)
          have HGR9 := Lib.hid (HGR8.out.below HGR8.out.lt hb)
          have HDL9 := Lib.hid (HDL8.out.below HDL8.out.lt hb)
          have HBL9 := Lib.hid (HBL8.out.trans (hb.mono HBL8.out.size))
          have HRA9 := Lib.hid (HRA8.out.below HRA8.out.lt hb)
          have HT9 := Lib.hid (HT0.out.below HT0.out.pos HBL9.out)
          have HBTL : Hid (bt < w8.heap.size) := Lib.hid HRA8.out.lt
          obtain ⟨bw, hbw⟩ : ∃ bw, w8.heap.size = bw := ⟨_, rfl⟩
          rw [hbw] at hrw HBTL ⊢
          have HRW9 := Lib.hid hrw
          clear hb hrw hbw
          have d0 := HRA9.out.cell 0
          have d1 := HRA9.out.cell 1
          have d2 := HRA9.out.cell 2
          simp only [List.getElem?_toArray, List.getElem?_cons_zero, List.getElem?_cons_succ] at d0 d1 d2
          go_wp2_with fail
          refine (law_does HD.out HIX.out HOK.out HR9.out HT9.out).mono ?_
          rintro e w10 ⟨rfl, hr, hkp⟩
          have hit := HIX.out.does HD.out a
          have herr := does_err s a
          have hstep := fun h0 => keep_step HD.out HIX.out a h0 HGO.out
          rw [← HSE.out] at hr hit herr hstep
          obtain ⟨t, htt⟩ : ∃ t, runV S0 (L.take (k + 1)) = t := ⟨_, rfl⟩
          rw [htt] at hr hit herr hstep
          obtain ⟨e', he'⟩ : ∃ e', (doesV s a).1.2 = e' := ⟨_, rfl⟩
          obtain ⟨c, hc⟩ : ∃ c, (doesV s a).2 = c := ⟨_, rfl⟩
          rw [he'] at herr hstep ⊢
          rw [hc] at hstep ⊢
          have HTT := Lib.hid htt
          have HIT := Lib.hid hit
          have HERR := Lib.hid herr
          have HSTEP := Lib.hid hstep
          have HR10 := Lib.hid hr
          have HOW10 := Lib.hid (OwnA.keptB HOW9.out hkp HGN.out.1)
          have HGR10 := Lib.hid (HGR9.out.kept (show bg ≠ B from fun e => HGN.out.2.2.2.2.1 e.symm) hkp)
          have HDL10 := Lib.hid (HDL9.out.kept (show bd ≠ B from HGN.out.2.2.1) hkp)
          have HBL10 := Lib.hid (HBL9.out.trans (hkp.toBelow HBR.out HBL9.out.size))
          have HRA10 := Lib.hid (HRA9.out.kept (show bt ≠ B by have := HLTS.out; omega) hkp)
          have HRW10 := Lib.hid (HRW9.out.kept (show bw ≠ B by have := HLTS.out; have := HBTL.out; omega) hkp)
          clear htt hit herr hstep hr hkp he' hc d0 d1 d2
          obtain ⟨SB, hSB⟩ : ∃ SB, SB = t.cells := ⟨_, rfl⟩
          have HZB : Hid ((Tryd.prog.info? 45).map (·.size) = some SB.size ∧ SB.size = 24 ∧ SB.all (·.oneCell') = true) := Lib.hid (by rw [hSB]; exact ⟨size_st, rfl, by simp [Value.oneCell']⟩)
          have HSB := Lib.hid hSB
          clear hSB
          go_wp2_with fail
          refine (tb_State HD.out HIT.out HR10.out HSB.out).mono ?_
          rintro e w11 ⟨rfl, hb⟩
          have HR11 := Lib.hid (HR10.out.below HR10.out.lt hb)
          have HOW11 := Lib.hid (HOW10.out.below hb)
          have HGR11 := Lib.hid (HGR10.out.below HGR10.out.lt hb)
          have HDL11 := Lib.hid (HDL10.out.below HDL10.out.lt hb)
          have HBL11 := Lib.hid (HBL10.out.trans (hb.mono HBL10.out.size))
          have HRA11 := Lib.hid (HRA10.out.below HRA10.out.lt hb)
          have HRW11 := Lib.hid (HRW10.out.below HRW10.out.lt hb)
          clear hb
          go_upto_region 19 with (refine wpList_store_row rfl 45 (.tmp 16) (.tmp 73) rfl w11.heap.size SB rfl rfl 45 _ (Row.new _ _ _) HZB.out.1 (by rw [HZB.out.2.1]; rfl) HZB.out.2.2 ?_)
          have hb := below_setRow ((Below.refl w11.heap.size w11).alloc (Nat.le_refl _) (.cells zst 45)) (Nat.le_refl _) SB
          have hri : Row ((w11.alloc (.cells zst 45)).setRow w11.heap.size SB) w11.heap.size 45 SB := setRow_heap _ _ _ _ _ _ (Row.new _ _ _)
          change Code.wp _ _ _ _ ((w11.alloc (.cells zst 45)).setRow w11.heap.size SB)
          generalize (w11.alloc (.cells zst 45)).setRow w11.heap.size SB = w12 at *
          have HR12 := Lib.hid (HR11.out.below HR11.out.lt hb)
          have HOW12 := Lib.hid (HOW11.out.below hb)
          have HGR12 := Lib.hid (HGR11.out.below HGR11.out.lt hb)
          have HDL12 := Lib.hid (HDL11.out.below HDL11.out.lt hb)
          have HBL12 := Lib.hid (HBL11.out.trans (hb.mono HBL11.out.size))
          have HRA12 := Lib.hid (HRA11.out.below HRA11.out.lt hb)
          have HRW12 := Lib.hid (HRW11.out.below HRW11.out.lt hb)
          have HBWL : Hid (bw < w11.heap.size) := Lib.hid HRW11.out.lt
          obtain ⟨bi, hbi⟩ : ∃ bi, w11.heap.size = bi := ⟨_, rfl⟩
          rw [hbi] at hri HBWL ⊢
          have HRI12 := Lib.hid hri
          have HDIS : Hid (bt ≠ bg ∧ bw ≠ bg ∧ bi ≠ bg ∧ bd ≠ bg ∧ B ≠ bg ∧ ga ≠ bg ∧ w.heap.size ≤ bg) := Lib.hid (by have := HLTS.out; have := HBTL.out; have := HBWL.out; have := HGN.out; omega)
          clear hb hri hbi
          by_cases he0 : e' = 0
          rotate_left
          · have hne : ((e' : Int) != 0) = true := by rw [bne_iff_ne]; omega
            have hts : t = s := HERR.out he0
            have hnq := neq_selfK t HSB.out
            have HRW' : Hid (Row w12 bw 45 SB) := Lib.hid (by rw [HSB.out, hts, ← HSA.out]; exact HRW12.out)
            have hgo' : GoneOk d t g := by rw [hts]; exact HGO.out
            have HGO' := Lib.hid hgo'
            clear he0 hts hgo'
            go_wp2_with (first
              | refine wpList_load_row rfl 45 (.tmp 13) rfl bw rfl 45 SB (0, 0) _ HRW'.out Tryd.underlying45 rfl HZB.out.1 ?_
              | refine wpList_load_row rfl 45 (.tmp 16) rfl bi rfl 45 SB (0, 0) _ HRI12.out Tryd.underlying45 rfl HZB.out.1 ?_)
            go_roundg (N - (k + 1))
            case measure => omega
            case rel => exact ⟨k + 1, rfl, by omega, by go_num, by rw [HTT.out]; exact HR12.out, HOW12.out, by rw [HTT.out]; exact ⟨g, HGO'.out, HGR12.out⟩, HDL12.out, HBL12.out⟩
          · subst he0
            obtain ⟨hseat, hchg, hgon⟩ := HSTEP.out rfl
            have HSEAT := Lib.hid hseat
            have HCHG := Lib.hid hchg
            have HGON := Lib.hid hgon
            clear hseat hchg hgon
            have hpop64 : ∀ x, pop x ≤ 64 := fun x => cnt_le x 64
            have HP64 := Lib.hid hpop64
            have HGW := Lib.hid (gone_w64 HD.out HGO.out)
            clear hpop64
            go_wp2_with fail
            go_loopg [17, 79] 4 (fun gj ch i wx => ∃ j : Nat, gj = 4 - j ∧ j ≤ 4 ∧ i = .int .i64 (j : Int) ∧ ch = .int .i64 (chgV s t j : Int) ∧ chgV s t j ≤ 64 * j ∧ Kept (fun b => b ≠ bg) w12 wx ∧ Below w.heap.size w wx ∧ Row wx bg 29 (arr4 (gonV s t g j)))
            case atStart => exact ⟨0, rfl, by omega, rfl, rfl, Nat.le_refl _, Kept.refl _ _, HBL12.out, by rw [gonV_zero]; exact HGR12.out⟩
            case round =>
              obtain ⟨j, rfl, hj, rfl, rfl, hch, hkp, hbl, hgr⟩ := hrel
              by_cases hj4 : j < 4
              · as_aux_lemma =>
                have SJ := HSEAT.out j hj4
                have hcs : chgV s t (j + 1) = chgV s t j + pop (awV s t j) := rfl
                have HCS := Lib.hid hcs
                have hng := gonV_succ s t g j
                have hga := gonV_at s t g j
                have HKP := Lib.hid hkp
                have HBX := Lib.hid hbl
                have HGX := Lib.hid hgr
                have hw1 := w64_52 (HIX.out.ok.h j hj4)
                have hw2 := w64_52 (HIT.out.ok.h j hj4)
                have hw3 := w64_52 (HIT.out.ok.pn j hj4)
                have hw4 := HGW.out j hj4
                have hwd := HW64.out j hj4
                have hjI : (j : Int) < 4 := by omega
                have hj0 : (0 : Int) ≤ (j : Int) := by omega
                have e1 : wr.cell? ⟨bw, j, none⟩ = some (.int .u64 (s.h j : Int)) := by rw [(HRW12.out.kept (show bw ≠ bg from HDIS.out.2.1) hkp).cell, HSA.out, st_hget s j hj4]
                have e2 : wr.cell? ⟨bi, j, none⟩ = some (.int .u64 (t.h j : Int)) := by rw [(HRI12.out.kept (show bi ≠ bg from HDIS.out.2.2.1) hkp).cell, HSB.out, st_hget t j hj4]
                have re1 := fun dd os => cell_regrown e1 dd os
                have re2 := fun dd os => cell_regrown e2 dd os
                have hawd : awV s t j = landn (s.h j) (t.h j) := rfl
                have s_all := SJ.all
                have s_none := SJ.none
                have s_pen := SJ.pen
                have s_aw := SJ.away
                rw [hawd] at s_all s_none s_aw hng
                rw [hawd] at HCS
                have hpa := HP64.out (landn (s.h j) (t.h j))
                generalize chgV s t j = ch0 at *
                generalize hthj : t.h j = th at *
                generalize s.h j = sh at *
                generalize htpj : t.pn j = tp at *
                have HTH := Lib.hid hthj
                have HTP := Lib.hid htpj
                clear SJ hcs hkp hbl hgr hawd hthj htpj
                go_wp2_with fail
                refine wp_region_quiet_below (by kernel_rfl) (by kernel_rfl) ?_
                repeat (quiet_step (fail))
                refine wpQuiet_nil ?_
                rintro _ ⟨y, rfl⟩
                have hb13 := below_regrown wr y.d y.os
                generalize grow (redrawn wr y.d) y.os = w13 at *
                have HKP13 := Lib.hid (HKP.out.trans (Kept.of_below hb13))
                have HBX13 := Lib.hid (HBX.out.trans (hb13.mono HBX.out.size))
                have HGX13 := Lib.hid (HGX.out.below HGX.out.lt hb13)
                clear hb13 re1 re2 e1 e2
                have hwaw : W64 (landn sh th) := hw1.landn
                have hs_all := Lib.hid s_all
                have hs_none := Lib.hid s_none
                have hs_pen := Lib.hid s_pen
                have hs_aw := Lib.hid s_aw
                clear s_all s_none s_pen s_aw
                generalize landn sh th = aw at *
                have HCN := Lib.hid (fun W => law_count aw hwaw W)
                have eg : w13.cell? ⟨bg, j, none⟩ = some (.int .u64 (g j : Int)) := by rw [HGX13.out.cell, arr4_get _ _ hj4, hga]
                have fg := HGX13.out.frozen j
                obtain ⟨pa, hpae⟩ : ∃ pa, pop aw = pa := ⟨_, rfl⟩
                rw [hpae] at HCN HCS hpa
                clear hpae
                go_wp2_with fail
                refine (HCN.out w13).mono ?_
                rintro e w' ⟨rfl, rfl⟩
                go_upto_region 29 with fail
                have hgr14 := HGX13.out.set j (.int .u64 ((lor (g j) aw : Nat) : Int))
                rw [arr4_set _ _ _ hj4, hng] at hgr14
                have HKP14 : Hid (Kept (fun b => b ≠ bg) w12 (w13.setCell ⟨bg, j, none⟩ (.int .u64 ((lor (g j) aw : Nat) : Int)))) := Lib.hid (HKP13.out.setCell (p := ⟨bg, j, none⟩) (fun h => h rfl) _)
                have HBX14 := Lib.hid (HBX13.out.setCell (p := ⟨bg, j, none⟩) (show w.heap.size ≤ bg from HDIS.out.2.2.2.2.2.2) (.int .u64 ((lor (g j) aw : Nat) : Int)))
                have HGX14 := Lib.hid hgr14
                clear hgr14 eg fg
                generalize w13.setCell ⟨bg, j, none⟩ (.int .u64 ((lor (g j) aw : Nat) : Int)) = w14 at *
                have f1 : w14.cell? ⟨bi, j, none⟩ = some (.int .u64 (th : Int)) := by rw [(HRI12.out.kept (show bi ≠ bg from HDIS.out.2.2.1) HKP14.out).cell, HSB.out, st_hget t j hj4, HTH.out]
                have f2 : w14.cell? ⟨bi, 4 + j, none⟩ = some (.int .u64 (tp : Int)) := by rw [(HRI12.out.kept (show bi ≠ bg from HDIS.out.2.2.1) HKP14.out).cell, HSB.out, st_pget t j hj4, HTP.out]
                have f3 : w14.cell? ⟨bg, j, none⟩ = some (.int .u64 ((lor (g j) aw : Nat) : Int)) := by
                  rw [HGX14.out.cell, arr4_get _ _ hj4, ← hng]; unfold setH; rw [if_pos rfl]
                have f4 : w14.cell? ⟨bd, j, none⟩ = some (.int .u64 (d j : Int)) := by rw [(HDL12.out.kept (show bd ≠ bg from HDIS.out.2.2.2.1) HKP14.out).cell]; exact da_get HDA.out j hj4
                have rf1 := fun dd os => cell_regrown f1 dd os
                have rf2 := fun dd os => cell_regrown f2 dd os
                have rf3 := fun dd os => cell_regrown f3 dd os
                have rf4 := fun dd os => cell_regrown f4 dd os
                have hwg : W64 (lor (g j) aw) := hw4.lor hwaw
                generalize lor (g j) aw = ng at *
                have n1 : (((lor th ng : Nat) : Int) != (d j : Int)) = false := by rw [hs_all.out]; simp
                have n2 : decide (((land th ng : Nat) : Int) > 0) = false := by rw [hs_none.out]; rfl
                have n2' : decide ((0 : Int) < ((land th ng : Nat) : Int)) = false := n2
                have n3 : decide (((landn tp th : Nat) : Int) > 0) = false := by rw [hs_pen.out]; rfl
                have n3' : decide ((0 : Int) < ((landn tp th : Nat) : Int)) = false := n3
                have m2 : ¬ 0 < land th ng := by rw [hs_none.out]; exact Nat.lt_irrefl 0
                have m3 : ¬ 0 < landn tp th := by rw [hs_pen.out]; exact Nat.lt_irrefl 0
                have k2 : decide (0 < land th ng) = false := decide_eq_false m2
                have k3 : decide (0 < landn tp th) = false := decide_eq_false m3
                obtain ⟨ba, hba⟩ : ∃ ba, decide (0 < aw) = ba := ⟨_, rfl⟩
                have k4 : decide (0 < aw) = ba := hba
                have n4 : decide ((aw : Int) > 0) = ba := by rw [← hba, decide_eq_decide]; omega
                have n4' : decide ((0 : Int) < (aw : Int)) = ba := n4
                have n5 : ba = true → ((aw : Int) != ((shl1 c : Nat) : Int)) = false := by
                  intro h
                  rw [h] at hba
                  have h1 := of_decide_eq_true hba
                  rcases hs_aw.out with h2 | h2
                  · omega
                  · rw [h2]; simp
                have N5 := Lib.hid n5
                clear n5 hba f1 f2 f3 f4
                cases ba
                · refine wp_region_quiet_below (by kernel_rfl) (by kernel_rfl) ?_
                  iterate 45 (go_big_quiet_step (fail))
                  refine wpQuiet_nil ?_
                  rintro _ ⟨y, rfl⟩
                  have hb15 := below_regrown w14 y.d y.os
                  generalize grow (redrawn w14 y.d) y.os = w15 at *
                  go_wp2_with fail
                  go_roundg (4 - (j + 1))
                  case measure => omega
                  case rel => exact ⟨j + 1, rfl, by omega, by go_num, by rw [HCS.out]; go_num, by rw [HCS.out]; omega, HKP14.out.trans (Kept.of_below hb15), HBX14.out.trans (hb15.mono HBX14.out.size), HGX14.out.below HGX14.out.lt hb15⟩
                · have n5 := N5.out rfl
                  refine wp_region_quiet_below (by kernel_rfl) (by kernel_rfl) ?_
                  iterate 45 (go_big_quiet_step (fail))
                  refine wpQuiet_nil ?_
                  rintro _ ⟨y, rfl⟩
                  have hb15 := below_regrown w14 y.d y.os
                  generalize grow (redrawn w14 y.d) y.os = w15 at *
                  go_wp2_with fail
                  go_roundg (4 - (j + 1))
                  case measure => omega
                  case rel => exact ⟨j + 1, rfl, by omega, by go_num, by rw [HCS.out]; go_num, by rw [HCS.out]; omega, HKP14.out.trans (Kept.of_below hb15), HBX14.out.trans (hb15.mono HBX14.out.size), HGX14.out.below HGX14.out.lt hb15⟩
              · as_aux_lemma =>
                obtain rfl : j = 4 := by omega
                have HKX := Lib.hid hkp
                have HBX := Lib.hid hbl
                have HGX := Lib.hid hgr
                clear hkp hbl hgr hj4 hj
                obtain ⟨cg, hcg⟩ : ∃ cg, chgV s t 4 = cg := ⟨_, rfl⟩
                have hchg := HCHG.out
                rw [hcg] at hch hchg ⊢
                have HCG := Lib.hid hchg
                clear hchg hcg hch
                have hkd := HOK.out.kind
                have hcdd := HOK.out.card
                obtain ⟨q, hq⟩ : ∃ q, a.kind % 8 = q := ⟨_, rfl⟩
                obtain ⟨r, hr6⟩ : ∃ r, a.card % 6 = r := ⟨_, rfl⟩
                obtain ⟨pd, hpd⟩ : ∃ pd, t.pend = pd := ⟨_, rfl⟩
                have hplB : playedB a t = ((decide (q < 4) || (decide (q < 6) && !pd)) || (q == 6 && (r == 0 || r == 5))) := by unfold playedB; rw [hq, hr6, hpd]
                obtain ⟨pb, hpb⟩ : ∃ pb, playedB a t = pb := ⟨_, rfl⟩
                rw [hpb] at hplB HCG
                have HPL := Lib.hid hplB
                have HPD := Lib.hid hpd
                have b0 : wr.cell? ⟨bt, 0, none⟩ = some (.int .u8 (a.kind : Int)) := by rw [(HRA12.out.kept (show bt ≠ bg from HDIS.out.1) HKX.out).cell]; rfl
                have b2 : wr.cell? ⟨bt, 2, none⟩ = some (.int .u8 (a.card : Int)) := by rw [(HRA12.out.kept (show bt ≠ bg from HDIS.out.1) HKX.out).cell]; rfl
                have b18 : wr.cell? ⟨bi, 18, none⟩ = some (.bool pd) := by rw [(HRI12.out.kept (show bi ≠ bg from HDIS.out.2.2.1) HKX.out).cell, HSB.out, ← hpd]; rfl
                have k1 : ((a.kind : Int)).tmod 8 = (q : Int) := by rw [Int.tmod_eq_emod_of_nonneg (by omega)]; omega
                have k2 : IntKind.u8.wrap (q : Int) = (q : Int) := by rw [IntKind.wrap_u8]; omega
                have k3 : ((a.card : Int)).tmod 6 = (r : Int) := by rw [Int.tmod_eq_emod_of_nonneg (by omega)]; omega
                have k4 : IntKind.u8.wrap (r : Int) = (r : Int) := by rw [IntKind.wrap_u8]; omega
                clear hplB hpb hpd hq hr6 hkd hcdd
                go_upto_region 32 with fail
                go_cut [20] from 147 to 179 (fun v wx => v = .bool pb ∧ wx = wr)
                case first =>
                  by_cases h4 : q < 4
                  · have h4I : decide ((q : Int) < 4) = true := by rw [decide_eq_true_eq]; omega
                    go_wp2_with fail
                    go_meet
                    exact ⟨by rw [HPL.out, decide_eq_true h4]; rfl, rfl⟩
                  have h4I : decide ((q : Int) < 4) = false := by rw [decide_eq_false_iff_not]; omega
                  by_cases h6 : q < 6
                  · have h6I : decide ((q : Int) < 6) = true := by rw [decide_eq_true_eq]; omega
                    have h66 : ((q : Int) == 6) = false := by rw [beq_eq_false_iff_ne]; omega
                    have hv : pb = !pd := by rw [HPL.out, decide_eq_false h4, decide_eq_true h6, show (q == 6) = false by rw [beq_eq_false_iff_ne]; omega]; simp
                    have HV := Lib.hid hv
                    clear hv
                    cases pd
                    all_goals
                      go_wp2_with fail
                      go_meet
                      exact ⟨by rw [HV.out]; rfl, rfl⟩
                  have h6I : decide ((q : Int) < 6) = false := by rw [decide_eq_false_iff_not]; omega
                  by_cases h66 : q = 6
                  · have h66I : ((q : Int) == 6) = true := by rw [beq_iff_eq]; omega
                    have hv : pb = (r == 0 || r == 5) := by rw [HPL.out, decide_eq_false h4, decide_eq_false h6, h66]; simp
                    have HV := Lib.hid hv
                    clear hv h66
                    by_cases r0 : r = 0
                    · have r0I : ((r : Int) == 0) = true := by rw [beq_iff_eq]; omega
                      have HR := Lib.hid r0
                      clear r0
                      go_wp2_with fail
                      go_meet
                      exact ⟨by rw [HV.out, HR.out]; rfl, rfl⟩
                    have r0I : ((r : Int) == 0) = false := by rw [beq_eq_false_iff_ne]; omega
                    by_cases r5 : r = 5
                    · have r5I : ((r : Int) == 5) = true := by rw [beq_iff_eq]; omega
                      have HR := Lib.hid r5
                      clear r5
                      go_wp2_with fail
                      go_meet
                      exact ⟨by rw [HV.out, HR.out]; rfl, rfl⟩
                    have r5I : ((r : Int) == 5) = false := by rw [beq_eq_false_iff_ne]; omega
                    have hv2 : pb = false := by rw [HV.out, show (r == 0) = false by rw [beq_eq_false_iff_ne]; omega, show (r == 5) = false by rw [beq_eq_false_iff_ne]; omega]; rfl
                    have HV2 := Lib.hid hv2
                    clear hv2
                    go_wp2_with fail
                    go_meet
                    exact ⟨by rw [HV2.out], rfl⟩
                  · have h66I : ((q : Int) == 6) = false := by rw [beq_eq_false_iff_ne]; omega
                    have hv : pb = false := by rw [HPL.out, decide_eq_false h4, decide_eq_false h6, show (q == 6) = false by rw [beq_eq_false_iff_ne]; omega]; rfl
                    have HV := Lib.hid hv
                    clear hv
                    go_wp2_with fail
                    go_meet
                    exact ⟨by rw [HV.out], rfl⟩
                obtain ⟨rfl, rfl⟩ := hcut
                clear b0 b2 k1 k2 k3 k4
                have g0 : wc.cell? ⟨bi, 0, none⟩ = some (.int .u64 (t.h 0 : Int)) := by rw [(HRI12.out.kept (show bi ≠ bg from HDIS.out.2.2.1) HKX.out).cell, HSB.out]; rfl
                have g1 : wc.cell? ⟨bi, 1, none⟩ = some (.int .u64 (t.h 1 : Int)) := by rw [(HRI12.out.kept (show bi ≠ bg from HDIS.out.2.2.1) HKX.out).cell, HSB.out]; rfl
                have g2 : wc.cell? ⟨bi, 2, none⟩ = some (.int .u64 (t.h 2 : Int)) := by rw [(HRI12.out.kept (show bi ≠ bg from HDIS.out.2.2.1) HKX.out).cell, HSB.out]; rfl
                have g3 : wc.cell? ⟨bi, 3, none⟩ = some (.int .u64 (t.h 3 : Int)) := by rw [(HRI12.out.kept (show bi ≠ bg from HDIS.out.2.2.1) HKX.out).cell, HSB.out]; rfl
                obtain ⟨ov, hov⟩ : ∃ ov, t.over = ov := ⟨_, rfl⟩
                have nq : ∀ w, Sem.run Tryd.prog (binOp .neq 29 (.agg #[.int .u64 (t.h 0 : Int), .int .u64 (t.h 1 : Int), .int .u64 (t.h 2 : Int), .int .u64 (t.h 3 : Int)]) (.agg #[.int .u64 0, .int .u64 0, .int .u64 0, .int .u64 0])) w = .ok (.bool (!ov)) w := by
                  intro w
                  rw [run_neq_struct, eq_deal0, Result.andThen_ok, ← hov]; rfl
                have HLG := Lib.hid (fun (W : World) (hA : TblAt W B t) (hT : Tab W) => tb_Legal HD.out HIT.out hA hT)
                have hlne : ov = false → pd = false → t.legal ≠ 0 := fun h1 h2 => HIT.out.toSCore.legal_ne (hov.trans h1) (HPD.out.trans h2)
                have HLNE := Lib.hid hlne
                clear hlne hov
                generalize t.legal = lg at *
                generalize t.h 0 = h0 at *
                generalize t.h 1 = h1 at *
                generalize t.h 2 = h2 at *
                generalize t.h 3 = h3 at *
                have HRX := Lib.hid (HR12.out.kept (show B ≠ bg from HDIS.out.2.2.2.2.1) HKX.out)
                have HOX := Lib.hid (OwnA.keptB HOW12.out HKX.out HDIS.out.2.2.2.2.2.1)
                have HDX := Lib.hid (HDL12.out.kept (show bd ≠ bg from HDIS.out.2.2.2.1) HKX.out)
                cases pb
                all_goals
                  have hcg := HCG.out
                  first
                    | (have c1 : ((cg : Int) == 1) = false := by rw [beq_eq_false_iff_ne, hcg]; decide
                       have c2 : decide ((cg : Int) > 1) = false := by rw [hcg]; rfl
                       have c3 : ¬ 1 < cg := by rw [hcg]; decide
                       clear hcg)
                    | (have c1 : ((cg : Int) == 1) = true := by rw [beq_iff_eq, hcg]; rfl
                       have c2 : decide ((cg : Int) > 1) = false := by rw [hcg]; rfl
                       have c3 : ¬ 1 < cg := by rw [hcg]; decide
                       clear hcg)
                  cases pd
                  · cases ov
                    · have hl0 : ((lg : Int) == 0) = false := by rw [beq_eq_false_iff_ne]; have := HLNE.out rfl rfl; omega
                      go_wp2_with fail
                      refine (HLG.out wc HRX.out (HT0.out.below HT0.out.pos HBX.out)).mono ?_
                      rintro e w20 ⟨rfl, hb⟩
                      go_wp2_with fail
                      go_roundg (N - (k + 1))
                      case measure => omega
                      case rel => exact ⟨k + 1, rfl, by omega, by go_num, by rw [HTT.out]; exact HRX.out.below HRX.out.lt hb, HOX.out.below hb, by rw [HTT.out]; exact ⟨_, HGON.out, HGX.out.below HGX.out.lt hb⟩, HDX.out.below HDX.out.lt hb, HBX.out.trans (hb.mono HBX.out.size)⟩
                    · go_wp2_with fail
                      go_roundg (N - (k + 1))
                      case measure => omega
                      case rel => exact ⟨k + 1, rfl, by omega, by go_num, by rw [HTT.out]; exact HRX.out, HOX.out, by rw [HTT.out]; exact ⟨_, HGON.out, HGX.out⟩, HDX.out, HBX.out⟩
                  · go_wp2_with fail
                    go_roundg (N - (k + 1))
                    case measure => omega
                    case rel => exact ⟨k + 1, rfl, by omega, by go_num, by rw [HTT.out]; exact HRX.out, HOX.out, by rw [HTT.out]; exact ⟨_, HGON.out, HGX.out⟩, HDX.out, HBX.out⟩
        · as_aux_lemma =>
          obtain rfl : k = N := by omega
          obtain ⟨hr, how, ⟨g, hgo, hgr⟩, hdl, hB⟩ := hK
          rw [show L.take k = L by rw [← HLL.out]; exact List.take_length] at hr hgo
          have hit : SInv d n (runV S0 L) := SInv.run HD.out L S0 HI0.out
          obtain ⟨t, htt⟩ : ∃ t, runV S0 L = t := ⟨_, rfl⟩
          rw [htt] at hr hgo hit HEN
          have HIT := Lib.hid hit
          have hge := gone_end hgo HEN.out.h
          have hwn := HEN.out.w
          have hdn := HD.out.pop 0 (by omega)
          have hnle := HD.out.le
          obtain ⟨SA, hSA⟩ : ∃ SA, SA = t.cells := ⟨_, rfl⟩
          have HZA : Hid ((Tryd.prog.info? 45).map (·.size) = some SA.size ∧ SA.size = 24 ∧ SA.all (·.oneCell') = true) := Lib.hid (by rw [hSA]; exact ⟨size_st, rfl, by simp [Value.oneCell']⟩)
          have HSA := Lib.hid hSA
          have HR7 := Lib.hid hr
          have HG7 := Lib.hid hgr
          have HD7 := Lib.hid hdl
          have HB7 := Lib.hid hB
          clear htt hit hSA hr hgr hdl hB how hgo
          go_wp2_with fail
          refine (tb_State HD.out HIT.out HR7.out HSA.out).mono ?_
          rintro e w8 ⟨rfl, hb⟩
          have HB8 := Lib.hid (HB7.out.trans (hb.mono HB7.out.size))
          have HG8 := Lib.hid (HG7.out.below HG7.out.lt hb)
          have HD8 := Lib.hid (HD7.out.below HD7.out.lt hb)
          clear hb
          go_upto_region 39 with (refine wpList_store_row rfl 45 (.tmp 21) (.tmp 204) rfl w8.heap.size SA rfl rfl 45 _ (Row.new _ _ _) HZA.out.1 (by rw [HZA.out.2.1]; rfl) HZA.out.2.2 ?_)
          have hb := below_setRow ((Below.refl w8.heap.size w8).alloc (Nat.le_refl _) (.cells zst 45)) (Nat.le_refl _) SA
          have hrf : Row ((w8.alloc (.cells zst 45)).setRow w8.heap.size SA) w8.heap.size 45 SA := setRow_heap _ _ _ _ _ _ (Row.new _ _ _)
          change Code.wp _ _ _ _ ((w8.alloc (.cells zst 45)).setRow w8.heap.size SA)
          generalize (w8.alloc (.cells zst 45)).setRow w8.heap.size SA = w9 at *
          have HB9 := Lib.hid (HB8.out.trans (hb.mono HB8.out.size))
          have HG9 := Lib.hid (HG8.out.below HG8.out.lt hb)
          have HD9 := Lib.hid (HD8.out.below HD8.out.lt hb)
          obtain ⟨bf, hbf⟩ : ∃ bf, w8.heap.size = bf := ⟨_, rfl⟩
          rw [hbf] at hrf ⊢
          have HF9 := Lib.hid hrf
          clear hb hrf hbf
          have fh0 : w9.cell? ⟨bf, 0, none⟩ = some (.int .u64 0) := by rw [HF9.out.cell, HSA.out]; show some (Value.int .u64 (t.h 0 : Int)) = _; rw [HEN.out.h 0 (by omega)]; rfl
          have rfh0 := fun dd os => cell_regrown fh0 dd os
          have fp0 : w9.cell? ⟨bf, 4, none⟩ = some (.int .u64 0) := by rw [HF9.out.cell, HSA.out]; show some (Value.int .u64 (t.pn 0 : Int)) = _; rw [HEN.out.pn 0 (by omega)]; rfl
          have rfp0 := fun dd os => cell_regrown fp0 dd os
          have fg0 : w9.cell? ⟨bg, 0, none⟩ = some (.int .u64 (d 0 : Int)) := by rw [HG9.out.cell]; show some (Value.int .u64 (g 0 : Int)) = _; rw [hge 0 (by omega)]
          have rfg0 := fun dd os => cell_regrown fg0 dd os
          have fd0 : w9.cell? ⟨bd, 0, none⟩ = some (.int .u64 (d 0 : Int)) := by rw [HD9.out.cell]; exact da_get HDA.out 0 (by omega)
          have rfd0 := fun dd os => cell_regrown fd0 dd os
          have fh1 : w9.cell? ⟨bf, 1, none⟩ = some (.int .u64 0) := by rw [HF9.out.cell, HSA.out]; show some (Value.int .u64 (t.h 1 : Int)) = _; rw [HEN.out.h 1 (by omega)]; rfl
          have rfh1 := fun dd os => cell_regrown fh1 dd os
          have fp1 : w9.cell? ⟨bf, 5, none⟩ = some (.int .u64 0) := by rw [HF9.out.cell, HSA.out]; show some (Value.int .u64 (t.pn 1 : Int)) = _; rw [HEN.out.pn 1 (by omega)]; rfl
          have rfp1 := fun dd os => cell_regrown fp1 dd os
          have fg1 : w9.cell? ⟨bg, 1, none⟩ = some (.int .u64 (d 1 : Int)) := by rw [HG9.out.cell]; show some (Value.int .u64 (g 1 : Int)) = _; rw [hge 1 (by omega)]
          have rfg1 := fun dd os => cell_regrown fg1 dd os
          have fd1 : w9.cell? ⟨bd, 1, none⟩ = some (.int .u64 (d 1 : Int)) := by rw [HD9.out.cell]; exact da_get HDA.out 1 (by omega)
          have rfd1 := fun dd os => cell_regrown fd1 dd os
          have fh2 : w9.cell? ⟨bf, 2, none⟩ = some (.int .u64 0) := by rw [HF9.out.cell, HSA.out]; show some (Value.int .u64 (t.h 2 : Int)) = _; rw [HEN.out.h 2 (by omega)]; rfl
          have rfh2 := fun dd os => cell_regrown fh2 dd os
          have fp2 : w9.cell? ⟨bf, 6, none⟩ = some (.int .u64 0) := by rw [HF9.out.cell, HSA.out]; show some (Value.int .u64 (t.pn 2 : Int)) = _; rw [HEN.out.pn 2 (by omega)]; rfl
          have rfp2 := fun dd os => cell_regrown fp2 dd os
          have fg2 : w9.cell? ⟨bg, 2, none⟩ = some (.int .u64 (d 2 : Int)) := by rw [HG9.out.cell]; show some (Value.int .u64 (g 2 : Int)) = _; rw [hge 2 (by omega)]
          have rfg2 := fun dd os => cell_regrown fg2 dd os
          have fd2 : w9.cell? ⟨bd, 2, none⟩ = some (.int .u64 (d 2 : Int)) := by rw [HD9.out.cell]; exact da_get HDA.out 2 (by omega)
          have rfd2 := fun dd os => cell_regrown fd2 dd os
          have fh3 : w9.cell? ⟨bf, 3, none⟩ = some (.int .u64 0) := by rw [HF9.out.cell, HSA.out]; show some (Value.int .u64 (t.h 3 : Int)) = _; rw [HEN.out.h 3 (by omega)]; rfl
          have rfh3 := fun dd os => cell_regrown fh3 dd os
          have fp3 : w9.cell? ⟨bf, 7, none⟩ = some (.int .u64 0) := by rw [HF9.out.cell, HSA.out]; show some (Value.int .u64 (t.pn 3 : Int)) = _; rw [HEN.out.pn 3 (by omega)]; rfl
          have rfp3 := fun dd os => cell_regrown fp3 dd os
          have fg3 : w9.cell? ⟨bg, 3, none⟩ = some (.int .u64 (d 3 : Int)) := by rw [HG9.out.cell]; show some (Value.int .u64 (g 3 : Int)) = _; rw [hge 3 (by omega)]
          have rfg3 := fun dd os => cell_regrown fg3 dd os
          have fd3 : w9.cell? ⟨bd, 3, none⟩ = some (.int .u64 (d 3 : Int)) := by rw [HD9.out.cell]; exact da_get HDA.out 3 (by omega)
          have rfd3 := fun dd os => cell_regrown fd3 dd os
          have fc : w9.cell? ⟨bf, 11, none⟩ = some (.int .u8 0) := by rw [HF9.out.cell, HSA.out]; show some (Value.int .u8 (t.ct : Int)) = _; rw [HEN.out.ct]; rfl
          have rfc := fun dd os => cell_regrown fc dd os
          have fe : w9.cell? ⟨bf, 18, none⟩ = some (.bool false) := by rw [HF9.out.cell, HSA.out]; show some (Value.bool t.pend) = _; rw [HEN.out.pend]
          have rfe := fun dd os => cell_regrown fe dd os
          have fw0 : w9.cell? ⟨bf, 22, none⟩ = some (.int .u8 (t.w 0 : Int)) := by rw [HF9.out.cell, HSA.out]; rfl
          have rfw0 := fun dd os => cell_regrown fw0 dd os
          have fw1 : w9.cell? ⟨bf, 23, none⟩ = some (.int .u8 (t.w 1 : Int)) := by rw [HF9.out.cell, HSA.out]; rfl
          have rfw1 := fun dd os => cell_regrown fw1 dd os
          have z1 : ∀ w, Sem.run Tryd.prog (Op.equalIn 10000 29 (.agg #[.int .u64 0, .int .u64 0, .int .u64 0, .int .u64 0]) (.agg #[.int .u64 0, .int .u64 0, .int .u64 0, .int .u64 0])) w = .ok true w := fun w => eq_deal0 (fun _ => 0) w
          have z2 : ∀ w, Sem.run Tryd.prog (Op.equalIn 10000 29 (.agg #[.int .u64 (d 0 : Int), .int .u64 (d 1 : Int), .int .u64 (d 2 : Int), .int .u64 (d 3 : Int)]) (.agg #[.int .u64 (d 0 : Int), .int .u64 (d 1 : Int), .int .u64 (d 2 : Int), .int .u64 (d 3 : Int)])) w = .ok true w := by
            intro w
            rw [eq_deal14 9998 d d w]; simp
          have hwd0 := HW64.out 0 (by omega)
          have HCN : Hid (∀ W, Calls Tryd.prog 21 #[.int .u64 (d 0 : Int)] W fun e w' => e = .returned (.int .i64 (n : Int)) ∧ Below W.heap.size W w') := Lib.hid (fun W => (law_count (d 0) hwd0 W).mono (by rintro e w' ⟨rfl, rfl⟩; exact ⟨by rw [hdn], Below.refl _ _⟩))
          have t1 : IntKind.u8.wrap ((t.w 0 : Int) + (t.w 1 : Int)) = (n : Int) := by rw [IntKind.wrap_u8]; omega
          have t2 : IntKind.i64.wrap (n : Int) = (n : Int) := IntWalk.i64_in _ (by omega)
          clear hge hwn hdn fh0 fp0 fg0 fd0 fh1 fp1 fg1 fd1 fh2 fp2 fg2 fd2 fh3 fp3 fg3 fd3 fc fe fw0 fw1
          refine wp_region_quiet_below (by kernel_rfl) (by kernel_rfl) ?_
          iterate 40 (first | go_big_quiet_step (fail) | quiet_step (with_reducible exact Calls.regrown_of (HCN.out _)))
          refine wpQuiet_nil ?_
          rintro _ ⟨y, rfl⟩
          have hb15 := below_regrown w9 y.d y.os
          generalize grow (redrawn w9 y.d) y.os = w15 at *
          go_wp2_with fail
          go_ret
          exact ⟨rfl, HB9.out.trans (hb15.mono HB9.out.size)⟩
end Go.Proofs.YtgnlmodaekfhfaaDoor
