/- Contract of agree.Lengths over this seat's program. -/
import Derived.Test.YtmkplfndbjcflaaAgZ
namespace Go.Proofs.Ytmkplfndbjcflaa
open Go.RowKit Go.Sort Go.Shelf Cnt
attribute [local go_sem] Oper.semAt_some

theorem mem_listTo {α : Type} {h : Nat → List α} {x : α} : ∀ {n}, x ∈ listTo h n → ∃ c, c < n ∧ x ∈ h c
  | 0, hx => by cases hx
  | n + 1, hx => by
    rcases List.mem_append.1 hx with h1 | h1
    · obtain ⟨c, hc, h2⟩ := mem_listTo h1
      exact ⟨c, by omega, h2⟩
    · exact ⟨n, by omega, h1⟩
theorem cells_small (hv : Nat → Nat) : ∀ (d rest : Nat) (l f : Nat → Nat), (∀ j, l j ≤ 13) → ∀ c ∈ cells hv d rest l f, ∀ j, c.1 j ≤ 13
  | 0, rest, l, f, h, c, hc, j => by
    have : c = (l, f) := by simpa [cells] using hc
    rw [this]; exact h j
  | d + 1, rest, l, f, h, c, hc, j => by
    rw [cells_succ] at hc
    obtain ⟨k, hk, hx⟩ := mem_listTo hc
    unfold cellsAt at hx
    split at hx
    · refine cells_small hv d _ _ _ ?_ c hx j
      intro i
      unfold upd
      split
      · omega
      · exact h i
    · cases hx
/-- what one cell adds to a count by the length of a suit -/
def addL (ra : List Rg) (s : Nat) (x : Cl) (j : Nat) (f : Nat → Nat) : Nat → Nat := fun k => f k + if k = x.1 s then sumN j (fun p => if fitP ra x.1 p then x.2 p else 0) else 0
theorem addL_step (ra : List Rg) (s : Nat) (x : Cl) (j : Nat) (f : Nat → Nat) : addL ra s x (j + 1) f = bump (addL ra s x j f) (x.1 s) (if fitP ra x.1 j then x.2 j else 0) := by
  funext k
  unfold addL bump
  by_cases h : k = x.1 s
  · simp only [if_pos h, sumN]; omega
  · simp only [if_neg h]
theorem one_len (ra : List Rg) (s : Nat) (x : Cl) (k : Nat) : oneC (fun l p => fitP ra l p && decide (l s = k)) x = if k = x.1 s then sumN 41 (fun p => if fitP ra x.1 p then x.2 p else 0) else 0 := by
  unfold oneC
  by_cases h : k = x.1 s
  · rw [if_pos h]
    exact sumN_congr fun p _ => by simp [h]
  · rw [if_neg h, sumN_congr (h := fun _ => 0) (fun p _ => by
      have h2 : ¬ x.1 s = k := fun e => h e.symm
      simp [h2]), sumN_zero]
theorem addL_end (ra : List Rg) (s : Nat) (x : Cl) (pre : List Cl) : tab 14 (addL ra s x 41 (fun k => allC (fun l p => fitP ra l p && decide (l s = k)) pre)) = tab 14 (fun k => allC (fun l p => fitP ra l p && decide (l s = k)) (pre ++ [x])) := tab_congr fun k _ => by
  rw [allC_append]
  unfold addL
  congr 1
  simp only [allC, Nat.add_zero]
  rw [one_len]
theorem addL_le (ra : List Rg) (s : Nat) (x : Cl) (pre : List Cl) (j T : Nat) (hj : j < 41) (hT : allC (fun _ _ => true) (pre ++ [x]) ≤ T) : addL ra s x j (fun k => allC (fun l p => fitP ra l p && decide (l s = k)) pre) (x.1 s) + (if fitP ra x.1 j then x.2 j else 0) ≤ T := by
  refine Nat.le_trans ?_ hT
  rw [allC_append]
  simp only [allC, Nat.add_zero]
  have h1 := allC_le (fun l p => fitP ra l p && decide (l s = x.1 s)) pre
  have h2 := oneC_le (fun l p => fitP ra l p && decide (l s = x.1 s)) x
  rw [one_len, if_pos rfl] at h2
  have h3 : sumN (j + 1) (fun p => if fitP ra x.1 p then x.2 p else 0) ≤ sumN 41 (fun p => if fitP ra x.1 p then x.2 p else 0) := sumN_mono _ (by omega)
  rw [sumN_succ] at h3
  unfold addL
  rw [if_pos rfl]
  dsimp only
  omega
/-- the world between two rounds of Lengths -/
structure SL (w : World) (b1 la ca N s : Nat) (a : Option Addr) (f : Nat → Nat) (W : World) : Prop where
  si : SI w b1 la ca N a f W
  su : Row W (w.heap.size + 1) 3 #[.int .i64 (s : Int)]
theorem SL.later {w : World} {b1 la ca N s : Nat} {a : Option Addr} {f : Nat → Nat} {W W' : World} (h : SL w b1 la ca N s a f W) (hb : Below W.heap.size W W') : SL w b1 la ca N s a f W' :=
  ⟨h.si.later hb, h.su.later hb⟩
theorem SL.shut {w : World} {b1 la ca N s B : Nat} {a : Option Addr} {f : List Cl → Nat → Nat} (hw : w.heap.size + 1 < B) (h1 : b1 + 1 < B) : Shut B (fun pre W => SL w b1 la ca N s a (f pre) W) :=
  fun _ _ _ h hb => ⟨SI.shut (f := f) (by omega) h1 _ _ _ h.si hb, h.su.below (by omega) hb⟩
theorem SL.set {w : World} {b1 la ca N s : Nat} {a : Option Addr} {f : Nat → Nat} {W : World} (h : SL w b1 la ca N s a f W) (hl : w.heap.size + 1 < b1) (i v : Nat) : SL w b1 la ca N s a (bump f i v) (W.setCell ⟨b1, i, none⟩ (.int .i64 ((f i + v : Nat) : Int))) :=
  ⟨h.si.set (by omega) i v, h.su.other (by omega)⟩

set_option maxHeartbeats 1000000 in
set_option maxRecDepth 5000 in
theorem ag_Lengths (left nn : Nat) (hl : left < 4503599627370496) (hn : nn ≤ 13) (a : Option Addr) (la ca : Nat) (ra : List Rg) (s : Nat) (hs : s < 4) (w : World) (ha : Rgs w a la ra) (oka : rightV ra = true)
    (hT : allC (fun _ _ => true) (cellsOf left nn) ≤ 4611686018427387904) :
    Calls Try.prog 19 #[.int .u64 (left : Int), .int .i64 (nn : Int), .slice a la ca, .int .i64 (s : Int)] w fun e w' =>
      (∃ b, e = .returned (.tuple #[.slice (some ⟨b, 0, none⟩) 14 14, .int .i64 0]) ∧ w.heap.size < b ∧ Row w' b 3 (tab 14 (fun k => allC (fun l p => fitP ra l p && decide (l s = k)) (cellsOf left nn)))) ∧ Below w.heap.size w w' := by
  have HA := Lib.hid ha
  have HKa := Lib.hid oka
  have HT := Lib.hid hT
  have hleg : legalB left (nn : Int) = true := by simp [legalB]; omega
  have HG := Lib.hid hleg
  clear ha oka hT hleg
  refine (callsIn_wide (n := 9)).1 ?_
  refine callsIn_of_wp_marks Try.func19 rfl trivial ?_ rfl
  simp only [Try.ntmps19, List.size_toArray, List.length_cons, List.length_nil, Nat.reduceAdd, Nat.reduceSub, Array.replicate_succ, Array.replicate_zero, List.push_toArray, List.append_toArray, List.nil_append, List.cons_append]
  have hW2 : Below w.heap.size w ((w.alloc (.cells #[.slice a la ca] 23)).alloc (.cells #[.int .i64 (s : Int)] 3)) := ((Below.refl _ _).alloc (Nat.le_refl _) _).alloc (by simp) _
  have hRa : Row ((w.alloc (.cells #[.slice a la ca] 23)).alloc (.cells #[.int .i64 (s : Int)] 3)) w.heap.size 23 #[.slice a la ca] := (Row.new _ _ _).alloc _
  have hRs : Row ((w.alloc (.cells #[.slice a la ca] 23)).alloc (.cells #[.int .i64 (s : Int)] 3)) (w.heap.size + 1) 3 #[.int .i64 (s : Int)] := Row.new1 _ _ _ _
  have HW2 := Lib.hid hW2
  have HRa := Lib.hid hRa
  have HRs := Lib.hid hRs
  clear hW2 hRa hRs
  have hleg := fun w' => ag_legal left nn w'
  simp only [HG.out] at hleg
  gi_wp2_with fail
  refine (callsIn_wide.2 (hleg _)).mono ?_
  rintro e w' ⟨rfl, rfl⟩
  clear hleg
  gi_wp2_with fail
  refine (callsIn_wide.2 (ag_Right a la ca ra _ (HA.out.below (Nat.le_refl _) HW2.out))).mono ?_
  rintro e w4 ⟨rfl, hb4⟩
  rw [HKa.out]
  have HRa4 := Lib.hid (HRa.out.later hb4)
  have hs4 := (HRs.out.later hb4).cell 0
  have HRs4 := Lib.hid (HRs.out.later hb4)
  have HB4 := Lib.hid (HW2.out.trans (hb4.mono HW2.out.size))
  clear hb4 HRa HRs HW2
  have hmk : ∀ w1 : World, (Instr.makeSlice 43 (.int .i64 14) (.int .i64 14)).run Try.prog w1 = .ok (.slice (some ⟨w1.heap.size, 0, none⟩) 14 14) (w1.alloc (.cells (tab 14 fun _ => 0) 3)) := make_ints 14 (by decide)
  gi_wp2_with fail
  refine (callsIn_wide.2 (ag_hands left nn _)).mono ?_
  rintro e w5 ⟨rfl, rfl⟩
  gi_wp2_with fail
  have hb5 : Below w4.heap.size w4 ((((w4.alloc (.cells (tab 14 fun _ => 0) 3)).alloc (.cells #[.slice (some ⟨w4.heap.size, 0, none⟩) 14 14] 43)).alloc (.cells #[.int .u64 (left : Int)] 22)).alloc (.cells #[.int .i64 (nn : Int)] 3)) := ((((Below.refl _ _).alloc (Nat.le_refl _) _).alloc (by simp) _).alloc (by simp; omega) _).alloc (by simp; omega) _
  have hr1 : Row ((((w4.alloc (.cells (tab 14 fun _ => 0) 3)).alloc (.cells #[.slice (some ⟨w4.heap.size, 0, none⟩) 14 14] 43)).alloc (.cells #[.int .u64 (left : Int)] 22)).alloc (.cells #[.int .i64 (nn : Int)] 3)) w4.heap.size 3 (tab 14 fun _ => 0) := (((Row.new _ _ _).alloc _).alloc _).alloc _
  have hr2 : Row ((((w4.alloc (.cells (tab 14 fun _ => 0) 3)).alloc (.cells #[.slice (some ⟨w4.heap.size, 0, none⟩) 14 14] 43)).alloc (.cells #[.int .u64 (left : Int)] 22)).alloc (.cells #[.int .i64 (nn : Int)] 3)) (w4.heap.size + 1) 43 #[.slice (some ⟨w4.heap.size, 0, none⟩) 14 14] := by
    have := ((Row.new (w4.alloc (.cells (tab 14 fun _ => 0) 3)) 43 #[.slice (some ⟨w4.heap.size, 0, none⟩) 14 14]).alloc (.cells #[.int .u64 (left : Int)] 22)).alloc (.cells #[.int .i64 (nn : Int)] 3)
    rwa [World.size_alloc] at this
  have hr3 : Row ((((w4.alloc (.cells (tab 14 fun _ => 0) 3)).alloc (.cells #[.slice (some ⟨w4.heap.size, 0, none⟩) 14 14] 43)).alloc (.cells #[.int .u64 (left : Int)] 22)).alloc (.cells #[.int .i64 (nn : Int)] 3)) (w4.heap.size + 1 + 1) 22 #[.int .u64 (left : Int)] := by
    have := (Row.new ((w4.alloc (.cells (tab 14 fun _ => 0) 3)).alloc (.cells #[.slice (some ⟨w4.heap.size, 0, none⟩) 14 14] 43)) 22 #[.int .u64 (left : Int)]).alloc (.cells #[.int .i64 (nn : Int)] 3)
    rwa [World.size_alloc, World.size_alloc] at this
  have hr4 : Row ((((w4.alloc (.cells (tab 14 fun _ => 0) 3)).alloc (.cells #[.slice (some ⟨w4.heap.size, 0, none⟩) 14 14] 43)).alloc (.cells #[.int .u64 (left : Int)] 22)).alloc (.cells #[.int .i64 (nn : Int)] 3)) (w4.heap.size + 1 + 1 + 1) 3 #[.int .i64 (nn : Int)] := by
    have := Row.new (((w4.alloc (.cells (tab 14 fun _ => 0) 3)).alloc (.cells #[.slice (some ⟨w4.heap.size, 0, none⟩) 14 14] 43)).alloc (.cells #[.int .u64 (left : Int)] 22)) 3 #[.int .i64 (nn : Int)]
    rwa [World.size_alloc, World.size_alloc, World.size_alloc] at this
  have hsz4 : w.heap.size + 1 < w4.heap.size := HRs4.out.lt
  have hI0 : SL w w4.heap.size la ca 14 s a (fun _ => 0) ((((w4.alloc (.cells (tab 14 fun _ => 0) 3)).alloc (.cells #[.slice (some ⟨w4.heap.size, 0, none⟩) 14 14] 43)).alloc (.cells #[.int .u64 (left : Int)] 22)).alloc (.cells #[.int .i64 (nn : Int)] 3)) :=
    ⟨⟨HB4.out.trans (hb5.mono (by omega)), HRa4.out.later hb5, hr1, hr2⟩, HRs4.out.later hb5⟩
  have hsz5 : ((((w4.alloc (.cells (tab 14 fun _ => 0) 3)).alloc (.cells #[.slice (some ⟨w4.heap.size, 0, none⟩) 14 14] 43)).alloc (.cells #[.int .u64 (left : Int)] 22)).alloc (.cells #[.int .i64 (nn : Int)] 3)).heap.size = w4.heap.size + 4 := by simp
  generalize ((((w4.alloc (.cells (tab 14 fun _ => 0) 3)).alloc (.cells #[.slice (some ⟨w4.heap.size, 0, none⟩) 14 14] 43)).alloc (.cells #[.int .u64 (left : Int)] 22)).alloc (.cells #[.int .i64 (nn : Int)] 3)) = W5 at *
  clear hb5 hr1 hr2 HRa4 HRs4 HB4 hmk hs4
  have hc3 := hr3.cell 0
  have hc4 := hr4.cell 0
  clear hr3 hr4
  generalize w4.heap.size = b1 at *
  have HI0 := Lib.hid hI0
  have HSZ := Lib.hid hsz5
  have HS4 := Lib.hid hsz4
  clear hI0 hsz5 hsz4
  refine wpIn_range_box (σ := Nat × Nat) (K := fun _ => False) (xs := cellsOf left nn) (w0 := W5) rfl (by decide) rfl trivial (enters_of Try.func56 (by kernel_rfl) rfl) (hands1_seq 8 left nn (b1 + 1 + 1) (b1 + 1 + 1 + 1) hl hn W5 hc3 hc4 _) (Below.refl _ _) (fun _ h => h.elim) (fun _ => rfl)
    (fun pre W => SL w b1 la ca 14 s a (fun k => allC (fun l p => fitP ra l p && decide (l s = k)) pre) W) (SL.shut (f := fun pre k => allC (fun l p => fitP ra l p && decide (l s = k)) pre) (by have := HSZ.out; have := HS4.out; omega) (by have := HSZ.out; omega)) HI0.out
    (BxC (b1 + 1)) (fun x u W l o o' h hl ho => h.putObj o' hl ho) (fun u t => (t.setIfInBounds 11 (.pointer (some ⟨u.1, 0, none⟩))).setIfInBounds 12 (.pointer (some ⟨u.2, 0, none⟩))) ?assign ?body ?done
  case assign =>
    intro l pre suf x W L hx hi hsz hL
    have hz := zero83
    gi_wp2_with (refine wpListIn_store_row rfl 83 (.tmp 12) (.tmp 38) rfl (W.heap.size + 1) (tab 41 x.2) rfl rfl 83 _ (Row.new1 W _ _ _) (by rw [size83, tab_size]) (by rw [tab_size, tab_size]) (tab_one _ _) ?_)
    have hb : Below W.heap.size W (((W.alloc (.cells (larr x.1) 81)).alloc (.cells (tab 41 fun _ => 0) 83)).setRow (W.heap.size + 1) (tab 41 x.2)) := below_setRow (((Below.refl _ _).alloc (Nat.le_refl _) _).alloc (by simp) _) (by omega) _
    have hfin := hL (W.heap.size, W.heap.size + 1) _ (Stays.of_below hb) (SL.later hi hb) ⟨((Row.new W _ (larr x.1)).alloc _).same (setRow_other _ _ _ _ (by omega)), setRow_heap _ _ _ _ _ _ (Row.new1 W _ _ _), by have := HSZ.out; show b1 + 1 < W.heap.size; omega, by have := HSZ.out; show b1 + 1 < W.heap.size + 1; omega⟩
    simpa using hfin
  case body =>
    intro l pre suf x u W hx hi hbx hsz
    have hx6 := (hi.si.ra.cell 0)
    have HI := Lib.hid hi
    have HL := Lib.hid hbx.len
    have HS := Lib.hid hbx.sp
    have HU := Lib.hid (And.intro hbx.l1 hbx.l2)
    have hTT : allC (fun _ _ => true) (pre ++ [x]) ≤ 4611686018427387904 := by
      have := HT.out
      rw [hx, allC_append] at this
      rw [allC_append]
      simp only [allC] at this ⊢
      omega
    have HTT := Lib.hid hTT
    have HKa1 : Hid (ra.all Rg.ok = true) := Lib.hid (by have := HKa.out; simp only [rightV, Bool.and_eq_true] at this; exact this.2)
    clear hi hbx hTT
    gi_wp2_with (refine wpListIn_load_row rfl 81 (.tmp 11) rfl u.1 rfl 81 (larr x.1) (0, 0) _ HL.out under81 rfl (by rw [size81]; rfl) ?_)
    refine (CallsIn.inRound l (callsIn_wide.2 (ag_fitting a la ca ra x.1 W (HA.out.below (Nat.le_refl _) HI.out.si.below) HKa1.out))).mono ?_
    rintro e w5 ⟨rfl, hb5⟩
    have hG5 := HI.out.later hb5
    have hS5 := HS.out.later hb5
    have HL5 := Lib.hid (HL.out.later hb5)
    have hst5 : Stays (fun _ => False) W5.heap.size W w5 := Stays.of_below hb5
    have hs5 := hb5.size
    have HG5 := Lib.hid hG5
    have HS5 := Lib.hid hS5
    have HST5 := Lib.hid hst5
    have HSW := Lib.hid hsz
    have HS55 := Lib.hid hs5
    clear hb5 hG5 hS5 hst5 hs5 HI HL HS hx6
    have hz84 := zero84
    gi_wp2_with (first | refine wpListIn_store_row rfl 84 (.tmp 13) (.tmp 41) rfl w5.heap.size (tabB 41 (fitP ra x.1)) rfl rfl 84 _ (Row.new w5 _ _) (by rw [size84, tabB_size]) (by simp) (tabB_one _ _) ?_ | refine wpListIn_load_row rfl 83 (.tmp 12) rfl u.2 rfl 83 (tab 41 x.2) (0, 0) _ ((HS5.out.alloc _).same (setRow_other _ _ _ _ (by have := HS5.out.lt; omega))) under83 rfl (by rw [size83, tab_size]) ?_)
    have hb6 : Below w5.heap.size w5 ((w5.alloc (.cells (tabB 41 fun _ => false) 84)).setRow w5.heap.size (tabB 41 (fitP ra x.1))) := below_setRow ((Below.refl _ _).alloc (Nat.le_refl _) _) (Nat.le_refl _) _
    have hR6 : Row ((w5.alloc (.cells (tabB 41 fun _ => false) 84)).setRow w5.heap.size (tabB 41 (fitP ra x.1))) w5.heap.size 84 (tabB 41 (fitP ra x.1)) := setRow_heap _ _ _ _ _ _ (Row.new _ _ _)
    have hG6 := HG5.out.later hb6
    have hL6 := HL5.out.later hb6
    have hst6 := HST5.out.trans (Stays.of_below hb6)
    have h61 : w5.heap.size ≠ b1 ∧ b1 + 1 < w5.heap.size := by have := HSZ.out; have := HSW.out; have := HS55.out; omega
    generalize ((w5.alloc (.cells (tabB 41 fun _ => false) 84)).setRow w5.heap.size (tabB 41 (fitP ra x.1))) = W6 at *
    generalize w5.heap.size = b6 at *
    clear HG5 HS5 HL5 HST5 hb6 HS55
    have hbase : (fun k => allC (fun l p => fitP ra l p && decide (l s = k)) pre) = addL ra s x 0 (fun k => allC (fun l p => fitP ra l p && decide (l s = k)) pre) := by
      funext k; unfold addL; simp [sumN]
    rw [hbase] at hG6
    clear hbase
    have HEND := Lib.hid (addL_end ra s x pre)
    have HLE := Lib.hid fun j hj => addL_le ra s x pre j _ hj HTT.out
    have HSTEP := Lib.hid fun j => addL_step ra s x j (fun k => allC (fun l p => fitP ra l p && decide (l s = k)) pre)
    generalize (fun k => allC (fun l p => fitP ra l p && decide (l s = k)) pre) = base at *
    have HSM : Hid (x.1 s ≤ 13) := Lib.hid (cells_small _ 4 nn _ _ (fun _ => Nat.zero_le _) x (by show x ∈ cellsOf left nn; rw [hx]; simp) s)
    gi_loopw [43] (fun i wr => ∃ (k : Nat), k ≤ 41 ∧ i = .int .i64 (k : Int) ∧ SL w b1 la ca 14 s a (addL ra s x k base) wr ∧ Row wr b6 84 (tabB 41 (fitP ra x.1)) ∧ Stays (fun _ => False) W5.heap.size W wr ∧ Row wr u.1 81 (larr x.1)) (fun i _ => 41 - (intOf i).toNat)
    case atStart => exact ⟨0, by omega, rfl, hG6, hR6, hst6, hL6⟩
    case round =>
      obtain ⟨k, hk, rfl, hG, h6, hst, hL⟩ := hrel
      clear hG6 hR6 hst6 hL6
      by_cases hlt : k < 41
      · have d41 : decide ((k : Int) < 41) = true := by simp; omega
        have hix := run_index_tab 83 3 41 k (tab 41 x.2) _ under83 size3 agg3 hlt (tab_get 41 x.2 k hlt)
        have hc6 := (h6.cell k).trans (tabB_get 41 _ k hlt)
        have hle := HLE.out k hlt
        have hst1 := HSTEP.out k
        cases hfa : fitP ra x.1 k
        · rw [hfa] at hc6 hst1
          have HST1 : Hid (addL ra s x (k + 1) base = addL ra s x k base) := Lib.hid (by rw [hst1]; simp only [Bool.false_eq_true, if_false]; exact bump_zero _ _)
          have HFA := Lib.hid hfa
          have HG1 := Lib.hid hG
          have HST := Lib.hid hst
          have H66 := Lib.hid h6
          have HLL := Lib.hid hL
          clear hle hst1 hfa hG hst h6 hL
          gi_wp2_with fail
          refine ⟨⟨k + 1, by omega, by simp, ?_, H66.out, HST.out, HLL.out⟩, by simp [intOf]; omega⟩
          rw [HST1.out]
          exact HG1.out
        · rw [hfa] at hc6 hst1 hle
          obtain ⟨c, Hc⟩ : ∃ c, Hid (x.2 k = c) := ⟨_, Lib.hid rfl⟩
          rw [Hc.out] at hix hle hst1
          rw [if_pos rfl] at hst1 hle
          have hsl := hG.si.sl.cell 0
          have hsu := hG.su.cell 0
          have hlen := (hL.cell s).trans (larr_get x.1 s hs)
          have hsm := HSM.out
          have htb := (hG.si.tb.cell (x.1 s)).trans (tab_get 14 _ (x.1 s) (by omega))
          have hfz := hG.si.tb.frozen (x.1 s)
          have hG7 := hG.set HS4.out (x.1 s) c
          have h67 := h6.other (i := x.1 s) (v := .int .i64 ((addL ra s x k base (x.1 s) + c : Nat) : Int)) h61.1
          have hL7 := hL.other (i := x.1 s) (v := .int .i64 ((addL ra s x k base (x.1 s) + c : Nat) : Int)) (show u.1 ≠ b1 by have := HU.out.1; omega)
          have hst7 := hst.setCell (p := ⟨b1, x.1 s, none⟩) (by simp) (by have := HSZ.out; show b1 < _; omega) (.int .i64 ((addL ra s x k base (x.1 s) + c : Nat) : Int))
          rw [← hst1] at hG7
          clear hst1
          generalize hv : addL ra s x k base (x.1 s) = v at *
          rw [show ((v + c : Nat) : Int) = (v : Int) + (c : Int) by simp] at hG7 h67 hst7 hL7
          have HFA := Lib.hid hfa
          have hdr : Below (wr.setCell ⟨b1, x.1 s, none⟩ (.int .i64 ((v : Int) + (c : Int)))).heap.size (wr.setCell ⟨b1, x.1 s, none⟩ (.int .i64 ((v : Int) + (c : Int)))) (wr.setCell ⟨b1, x.1 s, none⟩ (.int .i64 ((v : Int) + (c : Int)))).drew := (Below.refl _ _).drew
          have HG1 := Lib.hid (hG7.later hdr)
          have HST := Lib.hid (hst7.trans (Stays.of_below hdr))
          have H66 := Lib.hid (h67.later hdr)
          have HLL := Lib.hid (hL7.later hdr)
          clear hfa hG hst h6 hG7 hst7 h67 hv hL hL7 hdr
          generalize hxs : x.1 s = len at *
          simp only [List.getElem?_toArray, List.getElem?_cons_zero] at hsl hsu
          have hwr : IntKind.i64.wrap ((v : Int) + (c : Int)) = (v : Int) + (c : Int) := IntWalk.i64_in _ (by omega)
          have hslr := fun dd os => cell_regrown hsl dd os
          have hsur := fun dd os => cell_regrown hsu dd os
          have hlenr := fun dd os => cell_regrown hlen dd os
          have htbr := fun dd os => cell_regrown htb dd os
          gi_wp2_with fail
          gi_region
          all_goals (try rw [hwr])
          all_goals gi_wp2_with fail
          all_goals exact ⟨⟨k + 1, by omega, by simp, HG1.out, H66.out, HST.out, HLL.out⟩, by simp [intOf]; omega⟩
      · obtain rfl : k = 41 := by omega
        have HG1 := Lib.hid hG
        have HST := Lib.hid hst
        clear hG hst h6 hL
        gi_wp2_with fail
        refine ⟨HST.out, ?_⟩
        have := HG1.out
        refine ⟨⟨this.si.below, this.si.ra, ?_, this.si.sl⟩, this.su⟩
        rw [← HEND.out]
        exact this.si.tb
  case done =>
    intro D W hD hG hK
    have h1 := hG.si.sl.cell 0
    have HG1 := Lib.hid hG
    clear hG
    gi_wp2
    have hK2 : W.heap[D]? = some (.deferred (some [])) := hK
    refine ⟨by simp, .inl ⟨_, _, rfl, run_takeDeferred hK2, ?_⟩⟩
    exact ⟨_, results_tmp2 rfl _ _ _, ⟨b1, rfl, (by have := HS4.out; omega), HG1.out.si.tb.same (World.putObj_heap_other (by have := HSZ.out; omega))⟩, HG1.out.si.below.trans (belowK_b (w := w) (Nat.le_refl _) W D _ _ (by have := HSZ.out; have := HS4.out; omega) hK2 rfl rfl)⟩

end Go.Proofs.Ytmkplfndbjcflaa
