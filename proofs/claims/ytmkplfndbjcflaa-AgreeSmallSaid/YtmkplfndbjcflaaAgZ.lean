/- Contract of agree.Spread over this seat's program. -/
import Derived.Test.YtmkplfndbjcflaaMAgp
import Derived.Test.YtmkplfndbjcflaaMPld
namespace Go.Proofs.Ytmkplfndbjcflaa
open Go.RowKit Go.Sort Go.Shelf Cnt
attribute [local go_sem] Oper.semAt_some

/-- the world between two rounds of Spread and of Lengths: the counts in the block b1, the slice in b2 -/
structure SI (w : World) (b1 la ca N : Nat) (a : Option Addr) (f : Nat → Nat) (W : World) : Prop where
  below : Below w.heap.size w W
  ra : Row W w.heap.size 23 #[.slice a la ca]
  tb : Row W b1 3 (tab N f)
  sl : Row W (b1 + 1) 43 #[.slice (some ⟨b1, 0, none⟩) N N]
theorem SI.later {w : World} {b1 la ca N : Nat} {a : Option Addr} {f : Nat → Nat} {W W' : World} (h : SI w b1 la ca N a f W) (hb : Below W.heap.size W W') : SI w b1 la ca N a f W' :=
  ⟨h.below.trans (hb.mono h.below.size), h.ra.later hb, h.tb.later hb, h.sl.later hb⟩
theorem SI.shut {w : World} {b1 la ca N B : Nat} {a : Option Addr} {f : List Cl → Nat → Nat} (hw : w.heap.size < B) (h1 : b1 + 1 < B) : Shut B (fun pre W => SI w b1 la ca N a (f pre) W) :=
  fun _ _ _ h hb => ⟨h.below.trans (hb.mono (by omega)), h.ra.below (by omega) hb, h.tb.below (by omega) hb, h.sl.below (by omega) hb⟩
theorem SI.set {w : World} {b1 la ca N : Nat} {a : Option Addr} {f : Nat → Nat} {W : World} (h : SI w b1 la ca N a f W) (hl : w.heap.size < b1) (i v : Nat) : SI w b1 la ca N a (bump f i v) (W.setCell ⟨b1, i, none⟩ (.int .i64 ((f i + v : Nat) : Int))) := by
  refine ⟨h.below.setCell (by show w.heap.size ≤ b1; omega) _, h.ra.other (by omega), ?_, h.sl.other (by omega)⟩
  have := h.tb.set i (.int .i64 ((f i + v : Nat) : Int))
  rwa [tab_set] at this

theorem make_ints (n : Nat) (hn : n ≤ 100) (w1 : World) : (Instr.makeSlice 43 (.int .i64 (n : Int)) (.int .i64 (n : Int))).run Try.prog w1 = .ok (.slice (some ⟨w1.heap.size, 0, none⟩) n n) (w1.alloc (.cells (tab n fun _ => 0) 3)) := by
  have h : (Try.prog.info? 3).map (fun i => (i.zero, i.size, i.bytes)) = some (some (.int .i64 0), 1, 8) := by kernel_rfl
  obtain ⟨i, hq, h0, h1, h2⟩ := info_parts h
  have hr := run_makeSlice (P := Try.prog) w1 43 3 i (.int .i64 0) Try.underlying43 hq h0 .i64 .i64 (n : Int) (n : Int) (by omega) (by omega) (by rw [h1]; simp; omega) (by rw [h2]; omega) (by omega)
  have e : madeCells (Value.int .i64 0).cells n = tab n fun _ => 0 := by
    apply Array.ext_getElem?
    intro j
    by_cases hj : j < n
    · rw [tab_get n _ j hj]
      simp [madeCells, hj, Value.cells, Nat.mod_one]
    · rw [Array.getElem?_eq_none (by simp [size_madeCells]; omega), Array.getElem?_eq_none (by simp; omega)]
  rw [hr]
  simp only [Int.toNat_natCast, h1, Nat.mul_one, e]
/-- what one cell adds to a count by points -/
def addS (ra : List Rg) (x : Cl) (j : Nat) (f : Nat → Nat) : Nat → Nat := fun k => f k + if fitP ra x.1 k && decide (k < j) then x.2 k else 0
theorem addS_step (ra : List Rg) (x : Cl) (j : Nat) (f : Nat → Nat) : addS ra x (j + 1) f = bump (addS ra x j f) j (if fitP ra x.1 j then x.2 j else 0) := by
  funext k
  unfold addS bump
  by_cases h : k = j
  · subst h
    simp
  · have : decide (k < j + 1) = decide (k < j) := by rw [decide_eq_decide]; omega
    rw [if_neg h, this]
theorem addS_end (ra : List Rg) (x : Cl) (pre : List Cl) : tab 41 (addS ra x 41 (fun k => allC (fun l p => fitP ra l p && decide (p = k)) pre)) = tab 41 (fun k => allC (fun l p => fitP ra l p && decide (p = k)) (pre ++ [x])) := tab_congr fun k hk => by
  rw [allC_append]
  unfold addS
  congr 1
  simp only [allC, Nat.add_zero]
  unfold oneC
  rw [sumN_one hk (fun p => if (fitP ra x.1 p && decide (p = k)) = true then x.2 p else 0) (fun i _ hne => by simp [hne])]
  simp [hk]
theorem addS_le (ra : List Rg) (x : Cl) (pre : List Cl) (j T : Nat) (hj : j < 41) (hT : allC (fun _ _ => true) (pre ++ [x]) ≤ T) : addS ra x j (fun k => allC (fun l p => fitP ra l p && decide (p = k)) pre) j + x.2 j ≤ T := by
  refine Nat.le_trans ?_ hT
  rw [allC_append]
  simp only [allC, Nat.add_zero]
  have h1 := allC_le (fun l p => fitP ra l p && decide (p = j)) pre
  have h2 : x.2 j ≤ oneC (fun _ _ => true) x := by
    unfold oneC
    simp only [if_true]
    exact le_sumN x.2 hj
  have e : addS ra x j (fun k => allC (fun l p => fitP ra l p && decide (p = k)) pre) j = allC (fun l p => fitP ra l p && decide (p = j)) pre := by
    unfold addS; simp
  omega

set_option maxRecDepth 5000 in
theorem ag_Spread (left nn : Nat) (hl : left < 4503599627370496) (hn : nn ≤ 13) (a : Option Addr) (la ca : Nat) (ra : List Rg) (w : World) (ha : Rgs w a la ra) (oka : rightV ra = true)
    (hT : allC (fun _ _ => true) (cellsOf left nn) ≤ 4611686018427387904) :
    Calls Try.prog 23 #[.int .u64 (left : Int), .int .i64 (nn : Int), .slice a la ca] w fun e w' =>
      (∃ b, e = .returned (.tuple #[.slice (some ⟨b, 0, none⟩) 41 41, .int .i64 0]) ∧ w.heap.size < b ∧ Row w' b 3 (tab 41 (fun k => allC (fun l p => fitP ra l p && decide (p = k)) (cellsOf left nn)))) ∧ Below w.heap.size w w' := by
  have HA := Lib.hid ha
  have HKa := Lib.hid oka
  have HT := Lib.hid hT
  have hleg : legalB left (nn : Int) = true := by simp [legalB]; omega
  have HG := Lib.hid hleg
  clear ha oka hT hleg
  refine (callsIn_wide (n := 9)).1 ?_
  refine callsIn_of_wp_marks Try.func23 rfl trivial ?_ rfl
  simp only [Try.ntmps23, List.size_toArray, List.length_cons, List.length_nil, Nat.reduceAdd, Nat.reduceSub, Array.replicate_succ, Array.replicate_zero, List.push_toArray, List.append_toArray, List.nil_append, List.cons_append]
  have hW2 : Below w.heap.size w (w.alloc (.cells #[.slice a la ca] 23)) := (Below.refl _ _).alloc (Nat.le_refl _) _
  have hRa : Row (w.alloc (.cells #[.slice a la ca] 23)) w.heap.size 23 #[.slice a la ca] := Row.new _ _ _
  have HW2 := Lib.hid hW2
  have HRa := Lib.hid hRa
  clear hW2 hRa
  have hleg := fun w' => ag_legal left nn w'
  simp only [HG.out] at hleg
  gi_wp2_with fail
  refine (callsIn_wide.2 (hleg _)).mono ?_
  rintro e w' ⟨rfl, rfl⟩
  clear hleg
  gi_wp2_with fail
  refine (callsIn_wide.2 (ag_Right a la ca ra _ (HA.out.below (Nat.le_refl _) HW2.out))).mono ?_
  rintro e w4 ⟨rfl, hb4⟩
  rw [HKa.out]
  have HRa4 := Lib.hid (HRa.out.later hb4)
  have HB4 := Lib.hid (HW2.out.trans (hb4.mono HW2.out.size))
  clear hb4 HRa HW2
  have hmk : ∀ w1 : World, (Instr.makeSlice 43 (.int .i64 41) (.int .i64 41)).run Try.prog w1 = .ok (.slice (some ⟨w1.heap.size, 0, none⟩) 41 41) (w1.alloc (.cells (tab 41 fun _ => 0) 3)) := make_ints 41 (by decide)
  gi_wp2_with fail
  refine (callsIn_wide.2 (ag_hands left nn _)).mono ?_
  rintro e w5 ⟨rfl, rfl⟩
  gi_wp2_with fail
  have hb5 : Below w4.heap.size w4 ((((w4.alloc (.cells (tab 41 fun _ => 0) 3)).alloc (.cells #[.slice (some ⟨w4.heap.size, 0, none⟩) 41 41] 43)).alloc (.cells #[.int .u64 (left : Int)] 22)).alloc (.cells #[.int .i64 (nn : Int)] 3)) := ((((Below.refl _ _).alloc (Nat.le_refl _) _).alloc (by simp) _).alloc (by simp; omega) _).alloc (by simp; omega) _
  have hr1 : Row ((((w4.alloc (.cells (tab 41 fun _ => 0) 3)).alloc (.cells #[.slice (some ⟨w4.heap.size, 0, none⟩) 41 41] 43)).alloc (.cells #[.int .u64 (left : Int)] 22)).alloc (.cells #[.int .i64 (nn : Int)] 3)) w4.heap.size 3 (tab 41 fun _ => 0) := (((Row.new _ _ _).alloc _).alloc _).alloc _
  have hr2 : Row ((((w4.alloc (.cells (tab 41 fun _ => 0) 3)).alloc (.cells #[.slice (some ⟨w4.heap.size, 0, none⟩) 41 41] 43)).alloc (.cells #[.int .u64 (left : Int)] 22)).alloc (.cells #[.int .i64 (nn : Int)] 3)) (w4.heap.size + 1) 43 #[.slice (some ⟨w4.heap.size, 0, none⟩) 41 41] := by
    have := ((Row.new (w4.alloc (.cells (tab 41 fun _ => 0) 3)) 43 #[.slice (some ⟨w4.heap.size, 0, none⟩) 41 41]).alloc (.cells #[.int .u64 (left : Int)] 22)).alloc (.cells #[.int .i64 (nn : Int)] 3)
    rwa [World.size_alloc] at this
  have hr3 : Row ((((w4.alloc (.cells (tab 41 fun _ => 0) 3)).alloc (.cells #[.slice (some ⟨w4.heap.size, 0, none⟩) 41 41] 43)).alloc (.cells #[.int .u64 (left : Int)] 22)).alloc (.cells #[.int .i64 (nn : Int)] 3)) (w4.heap.size + 1 + 1) 22 #[.int .u64 (left : Int)] := by
    have := (Row.new ((w4.alloc (.cells (tab 41 fun _ => 0) 3)).alloc (.cells #[.slice (some ⟨w4.heap.size, 0, none⟩) 41 41] 43)) 22 #[.int .u64 (left : Int)]).alloc (.cells #[.int .i64 (nn : Int)] 3)
    rwa [World.size_alloc, World.size_alloc] at this
  have hr4 : Row ((((w4.alloc (.cells (tab 41 fun _ => 0) 3)).alloc (.cells #[.slice (some ⟨w4.heap.size, 0, none⟩) 41 41] 43)).alloc (.cells #[.int .u64 (left : Int)] 22)).alloc (.cells #[.int .i64 (nn : Int)] 3)) (w4.heap.size + 1 + 1 + 1) 3 #[.int .i64 (nn : Int)] := by
    have := Row.new (((w4.alloc (.cells (tab 41 fun _ => 0) 3)).alloc (.cells #[.slice (some ⟨w4.heap.size, 0, none⟩) 41 41] 43)).alloc (.cells #[.int .u64 (left : Int)] 22)) 3 #[.int .i64 (nn : Int)]
    rwa [World.size_alloc, World.size_alloc, World.size_alloc] at this
  have hsz4 : w.heap.size < w4.heap.size := HRa4.out.lt
  have hI0 : SI w w4.heap.size la ca 41 a (fun _ => 0) ((((w4.alloc (.cells (tab 41 fun _ => 0) 3)).alloc (.cells #[.slice (some ⟨w4.heap.size, 0, none⟩) 41 41] 43)).alloc (.cells #[.int .u64 (left : Int)] 22)).alloc (.cells #[.int .i64 (nn : Int)] 3)) :=
    ⟨HB4.out.trans (hb5.mono (by omega)), HRa4.out.later hb5, hr1, hr2⟩
  have hsz5 : ((((w4.alloc (.cells (tab 41 fun _ => 0) 3)).alloc (.cells #[.slice (some ⟨w4.heap.size, 0, none⟩) 41 41] 43)).alloc (.cells #[.int .u64 (left : Int)] 22)).alloc (.cells #[.int .i64 (nn : Int)] 3)).heap.size = w4.heap.size + 4 := by simp
  generalize ((((w4.alloc (.cells (tab 41 fun _ => 0) 3)).alloc (.cells #[.slice (some ⟨w4.heap.size, 0, none⟩) 41 41] 43)).alloc (.cells #[.int .u64 (left : Int)] 22)).alloc (.cells #[.int .i64 (nn : Int)] 3)) = W5 at *
  clear hb5 hr1 hr2 HRa4 HB4 hmk
  have hc3 := hr3.cell 0
  have hc4 := hr4.cell 0
  clear hr3 hr4
  generalize w4.heap.size = b1 at *
  have HI0 := Lib.hid hI0
  have HSZ := Lib.hid hsz5
  have HS4 := Lib.hid hsz4
  clear hI0 hsz5 hsz4
  refine wpIn_range_box (σ := Nat × Nat) (K := fun _ => False) (xs := cellsOf left nn) (w0 := W5) rfl (by decide) rfl trivial (enters_of Try.func56 (by kernel_rfl) rfl) (hands1_seq 8 left nn (b1 + 1 + 1) (b1 + 1 + 1 + 1) hl hn W5 hc3 hc4 _) (Below.refl _ _) (fun _ h => h.elim) (fun _ => rfl)
    (fun pre W => SI w b1 la ca 41 a (fun k => allC (fun l p => fitP ra l p && decide (p = k)) pre) W) (SI.shut (f := fun pre k => allC (fun l p => fitP ra l p && decide (p = k)) pre) (by have := HSZ.out; have := HS4.out; omega) (by have := HSZ.out; omega)) HI0.out
    (BxC (b1 + 1)) (fun x u W l o o' h hl ho => h.putObj o' hl ho) (fun u t => (t.setIfInBounds 9 (.pointer (some ⟨u.1, 0, none⟩))).setIfInBounds 10 (.pointer (some ⟨u.2, 0, none⟩))) ?assign ?body ?done
  case assign =>
    intro l pre suf x W L hx hi hsz hL
    have hz := zero83
    gi_wp2_with (refine wpListIn_store_row rfl 83 (.tmp 10) (.tmp 28) rfl (W.heap.size + 1) (tab 41 x.2) rfl rfl 83 _ (Row.new1 W _ _ _) (by rw [size83, tab_size]) (by rw [tab_size, tab_size]) (tab_one _ _) ?_)
    have hb : Below W.heap.size W (((W.alloc (.cells (larr x.1) 81)).alloc (.cells (tab 41 fun _ => 0) 83)).setRow (W.heap.size + 1) (tab 41 x.2)) := below_setRow (((Below.refl _ _).alloc (Nat.le_refl _) _).alloc (by simp) _) (by omega) _
    have hfin := hL (W.heap.size, W.heap.size + 1) _ (Stays.of_below hb) (SI.later hi hb) ⟨((Row.new W _ (larr x.1)).alloc _).same (setRow_other _ _ _ _ (by omega)), setRow_heap _ _ _ _ _ _ (Row.new1 W _ _ _), by have := HSZ.out; show b1 + 1 < W.heap.size; omega, by have := HSZ.out; show b1 + 1 < W.heap.size + 1; omega⟩
    simpa using hfin
  case body =>
    intro l pre suf x u W hx hi hbx hsz
    have hx6 := (hi.ra.cell 0)
    have HI := Lib.hid hi
    have HL := Lib.hid hbx.len
    have HS := Lib.hid hbx.sp
    have HU := Lib.hid (And.intro hbx.l1 hbx.l2)
    have hTT : allC (fun _ _ => true) (pre ++ [x]) ≤ 4611686018427387904 := by
      have := HT.out
      rw [hx, allC_append] at this
      rw [allC_append]
      simp only [allC] at this ⊢
      omega
    have HTT := Lib.hid hTT
    have HKa1 : Hid (ra.all Rg.ok = true) := Lib.hid (by have := HKa.out; simp only [rightV, Bool.and_eq_true] at this; exact this.2)
    clear hi hbx hTT
    gi_wp2_with (refine wpListIn_load_row rfl 81 (.tmp 9) rfl u.1 rfl 81 (larr x.1) (0, 0) _ HL.out under81 rfl (by rw [size81]; rfl) ?_)
    refine (CallsIn.inRound l (callsIn_wide.2 (ag_fitting a la ca ra x.1 W (HA.out.below (Nat.le_refl _) HI.out.below) HKa1.out))).mono ?_
    rintro e w5 ⟨rfl, hb5⟩
    have hG5 := HI.out.later hb5
    have hS5 := HS.out.later hb5
    have hst5 : Stays (fun _ => False) W5.heap.size W w5 := Stays.of_below hb5
    have hs5 := hb5.size
    have HG5 := Lib.hid hG5
    have HS5 := Lib.hid hS5
    have HST5 := Lib.hid hst5
    have HSW := Lib.hid hsz
    have HS55 := Lib.hid hs5
    clear hb5 hG5 hS5 hst5 hs5 HI HL HS hx6
    have hz84 := zero84
    gi_wp2_with (first | refine wpListIn_store_row rfl 84 (.tmp 11) (.tmp 31) rfl w5.heap.size (tabB 41 (fitP ra x.1)) rfl rfl 84 _ (Row.new w5 _ _) (by rw [size84, tabB_size]) (by simp) (tabB_one _ _) ?_ | refine wpListIn_load_row rfl 83 (.tmp 10) rfl u.2 rfl 83 (tab 41 x.2) (0, 0) _ ((HS5.out.alloc _).same (setRow_other _ _ _ _ (by have := HS5.out.lt; omega))) under83 rfl (by rw [size83, tab_size]) ?_)
    have hb6 : Below w5.heap.size w5 ((w5.alloc (.cells (tabB 41 fun _ => false) 84)).setRow w5.heap.size (tabB 41 (fitP ra x.1))) := below_setRow ((Below.refl _ _).alloc (Nat.le_refl _) _) (Nat.le_refl _) _
    have hR6 : Row ((w5.alloc (.cells (tabB 41 fun _ => false) 84)).setRow w5.heap.size (tabB 41 (fitP ra x.1))) w5.heap.size 84 (tabB 41 (fitP ra x.1)) := setRow_heap _ _ _ _ _ _ (Row.new _ _ _)
    have hG6 := HG5.out.later hb6
    have hst6 := HST5.out.trans (Stays.of_below hb6)
    have h61 : w5.heap.size ≠ b1 ∧ b1 + 1 < w5.heap.size := by have := HSZ.out; have := HSW.out; have := HS55.out; omega
    generalize ((w5.alloc (.cells (tabB 41 fun _ => false) 84)).setRow w5.heap.size (tabB 41 (fitP ra x.1))) = W6 at *
    generalize w5.heap.size = b6 at *
    clear HG5 HS5 HST5 hb6 HS55
    have hbase : (fun k => allC (fun l p => fitP ra l p && decide (p = k)) pre) = addS ra x 0 (fun k => allC (fun l p => fitP ra l p && decide (p = k)) pre) := by
      funext k; unfold addS; simp
    rw [hbase] at hG6
    clear hbase
    have HEND := Lib.hid (addS_end ra x pre)
    have HLE := Lib.hid fun j hj => addS_le ra x pre j _ hj HTT.out
    have HSTEP := Lib.hid fun j => addS_step ra x j (fun k => allC (fun l p => fitP ra l p && decide (p = k)) pre)
    generalize (fun k => allC (fun l p => fitP ra l p && decide (p = k)) pre) = base at *
    gi_loopw [33] (fun i wr => ∃ (k : Nat), k ≤ 41 ∧ i = .int .i64 (k : Int) ∧ SI w b1 la ca 41 a (addS ra x k base) wr ∧ Row wr b6 84 (tabB 41 (fitP ra x.1)) ∧ Stays (fun _ => False) W5.heap.size W wr) (fun i _ => 41 - (intOf i).toNat)
    case atStart => exact ⟨0, by omega, rfl, hG6, hR6, hst6⟩
    case round =>
      obtain ⟨k, hk, rfl, hG, h6, hst⟩ := hrel
      clear hG6 hR6 hst6
      by_cases hlt : k < 41
      · have d41 : decide ((k : Int) < 41) = true := by simp; omega
        have hix := run_index_tab 83 3 41 k (tab 41 x.2) _ under83 size3 agg3 hlt (tab_get 41 x.2 k hlt)
        have hc6 := (h6.cell k).trans (tabB_get 41 _ k hlt)
        have hle := HLE.out k hlt
        have hst1 := HSTEP.out k
        cases hfa : fitP ra x.1 k
        · rw [hfa] at hc6 hst1
          have HST1 : Hid (addS ra x (k + 1) base = addS ra x k base) := Lib.hid (by rw [hst1]; simp only [Bool.false_eq_true, if_false]; exact bump_zero _ _)
          have HFA := Lib.hid hfa
          have HG1 := Lib.hid hG
          have HST := Lib.hid hst
          have H66 := Lib.hid h6
          clear hle hst1 hfa hG hst h6
          gi_wp2_with fail
          refine ⟨⟨k + 1, by omega, by simp, ?_, H66.out, HST.out⟩, by simp [intOf]; omega⟩
          rw [HST1.out]
          exact HG1.out
        · rw [hfa] at hc6 hst1
          obtain ⟨c, Hc⟩ : ∃ c, Hid (x.2 k = c) := ⟨_, Lib.hid rfl⟩
          rw [Hc.out] at hix hle hst1
          rw [if_pos rfl] at hst1
          have hsl := hG.sl.cell 0
          have htb := (hG.tb.cell k).trans (tab_get 41 _ k hlt)
          have hfz := hG.tb.frozen k
          have hG7 := hG.set HS4.out k c
          have h67 := h6.other (i := k) (v := .int .i64 ((addS ra x k base k + c : Nat) : Int)) h61.1
          have hst7 := hst.setCell (p := ⟨b1, k, none⟩) (by simp) (by have := HSZ.out; show b1 < _; omega) (.int .i64 ((addS ra x k base k + c : Nat) : Int))
          generalize hv : addS ra x k base k = v at *
          rw [show ((v + c : Nat) : Int) = (v : Int) + (c : Int) by simp] at hG7 h67 hst7
          rw [← hst1] at hG7
          have HFA := Lib.hid hfa
          have HG1 := Lib.hid hG7
          have HST := Lib.hid hst7
          have H66 := Lib.hid h67
          clear hst1 hfa hG hst h6 hG7 hst7 h67 hv
          gi_wp2_with fail
          exact ⟨⟨k + 1, by omega, by simp, HG1.out, H66.out, HST.out⟩, by simp [intOf]; omega⟩
      · obtain rfl : k = 41 := by omega
        have HG1 := Lib.hid hG
        have HST := Lib.hid hst
        clear hG hst h6
        gi_wp2_with fail
        refine ⟨HST.out, ?_⟩
        have := HG1.out
        refine ⟨this.below, this.ra, ?_, this.sl⟩
        rw [← HEND.out]
        exact this.tb
  case done =>
    intro D W hD hG hK
    have h1 := hG.sl.cell 0
    have HG1 := Lib.hid hG
    clear hG
    gi_wp2
    have hK2 : W.heap[D]? = some (.deferred (some [])) := hK
    refine ⟨by simp, .inl ⟨_, _, rfl, run_takeDeferred hK2, ?_⟩⟩
    exact ⟨_, results_tmp2 rfl _ _ _, ⟨b1, rfl, HS4.out, HG1.out.tb.same (World.putObj_heap_other (by have := HSZ.out; omega))⟩, HG1.out.below.trans (belowK_b (w := w) (Nat.le_refl _) W D _ _ (by have := HSZ.out; have := HS4.out; omega) hK2 rfl rfl)⟩

set_option maxRecDepth 5000 in
theorem ag_Spread_no (left : Nat) (n : Int) (a : Option Addr) (la ca : Nat) (ra : List Rg) (w : World) (ha : Rgs w a la ra) (hno : (legalB left n && rightV ra) = false) :
    Calls Try.prog 23 #[.int .u64 (left : Int), .int .i64 n, .slice a la ca] w fun e w' =>
      e = .returned (.tuple #[.slice none 0 0, .int .i64 2]) ∧ Below w.heap.size w w' := by
  have HA := Lib.hid ha
  have HNO := Lib.hid hno
  clear ha hno
  refine (callsIn_wide (n := 9)).1 ?_
  refine callsIn_of_wp_marks Try.func23 rfl trivial ?_ rfl
  simp only [Try.ntmps23, List.size_toArray, List.length_cons, List.length_nil, Nat.reduceAdd, Nat.reduceSub, Array.replicate_succ, Array.replicate_zero, List.push_toArray, List.append_toArray, List.nil_append, List.cons_append]
  have hW2 : Below w.heap.size w (w.alloc (.cells #[.slice a la ca] 23)) := (Below.refl _ _).alloc (Nat.le_refl _) _
  have HW2 := Lib.hid hW2
  clear hW2
  gi_wp2_with fail
  refine (callsIn_wide.2 (ag_legal left n _)).mono ?_
  rintro e w' ⟨rfl, rfl⟩
  rcases hl : legalB left n with _ | _
  · clear hl
    gi_wp2_with fail
    exact ⟨_, results_tmp2 rfl _ _ _, rfl, HW2.out⟩
  · have HL := Lib.hid hl
    clear hl
    gi_wp2_with fail
    refine (callsIn_wide.2 (ag_Right a la ca ra _ (HA.out.below (Nat.le_refl _) HW2.out))).mono ?_
    rintro e w3 ⟨rfl, hb3⟩
    have HB3 := Lib.hid (HW2.out.trans (hb3.mono HW2.out.size))
    clear hb3
    have hr : rightV ra = false := by
      have := HNO.out
      rw [HL.out] at this
      simpa using this
    rw [hr]
    clear hr
    gi_wp2_with fail
    exact ⟨_, results_tmp2 rfl _ _ _, rfl, HB3.out⟩
/-- what Spread says for what is right -/
theorem ag_SpreadOk (left : Nat) (n : Int) (hl : left < 4503599627370496) (h0 : 0 ≤ n) (h13 : n ≤ 13) (a : Option Addr) (la ca : Nat) (ra : List Rg) (hr : rightV ra = true) (w : World) (ha : Rgs w a la ra) :
    Calls Try.prog 23 #[.int .u64 (left : Int), .int .i64 n, .slice a la ca] w fun e w' =>
      (∃ b, e = .returned (.tuple #[.slice (some ⟨b, 0, none⟩) 41 41, .int .i64 0]) ∧ w.heap.size < b ∧ Row w' b 3 (tab 41 (spV left n.toNat ra))) ∧ Below w.heap.size w w' := by
  obtain ⟨nn, rfl⟩ : ∃ nn : Nat, n = (nn : Int) := ⟨n.toNat, by omega⟩
  have h := ag_Spread left nn hl (by omega) a la ca ra w ha hr (Nat.le_trans (allC_bound left nn (by omega) _) (by decide))
  have e : (fun k => allC (fun l p => fitP ra l p && decide (p = k)) (cellsOf left nn)) = spV left nn ra := funext fun k => allC_hands left nn (by omega) _
  rw [e] at h
  exact h
end Go.Proofs.Ytmkplfndbjcflaa
