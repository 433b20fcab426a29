/- Tables of package dummy over this seat's program: put. -/
import Derived.Test.YtnbillhodbcfbaaDoorMDmu
import Derived.Deep.Cut
import Derived.Laws.CopyOwn
namespace Go.Proofs.YtnbillhodbcfbaaDoor
open Go.RowKit Go.Sort Go.Shelf

abbrev zeroT : Array Value := #[.int .u64 0, .int .u64 0, .int .u64 0, .int .u64 0, .int .u8 0, .int .u8 0, .int .u8 0, .int .u8 0, .int .u8 0, .int .u8 0]
theorem dm_beatsB (tr c b : Nat) (ht : tr < 256) (hc : c < 256) (hb : b < 256) (w : World) : Calls Tryd.prog 69 #[.int .u8 (c : Int), .int .u8 (b : Int), .int .u8 (tr : Int)] w fun e w' => e = .returned (.bool (beatsB tr c b)) ∧ Below w.heap.size w w' :=
  (dm_beats tr c b ht hc hb w).mono fun _ _ ⟨h, e⟩ => ⟨h, e ▸ Below.refl _ _⟩
theorem size_tb : (Tryd.prog.info? 76).map (·.size) = some 10 := by kernel_rfl
theorem tbA_one (t : Tb) : (tbA t).all (·.oneCell') = true := by simp [tbA, Value.oneCell']
theorem results_two {P : Program} {fn : Func} {p q : Tmp} {ty : TypeId} (h : fn.results = #[.cell p ty, .tmp q]) (tmps : Array Value) (w : World) (g : Nat) (t : TypeId) (cs : Array Value) (fr : Nat × Nat) (d : TypeDesc)
    (hp : tmps.getD p undef = .pointer (some ⟨g, 0, none⟩)) (hg : w.heap[g]? = some (.cells cs t fr))
    (hu : P.underlying ty = some d) (hd : (match d with | .struct _ | .array _ _ => true | _ => false) = true) (hi : (P.info? ty).map (·.size) = some cs.size) :
    (results fn tmps).run P w = .ok (.tuple #[.agg cs, tmps.getD q undef]) w := by
  have hp' : tmps[p]?.getD undef = .pointer (some ⟨g, 0, none⟩) := by simpa using hp
  simp [results, h, hp', asAddr, run_loadVar_row w g t ty cs fr d hg hu hd hi]
set_option maxHeartbeats 2000000 in
set_option maxRecDepth 10000 in
theorem dm_put (t : Tb) (h : TbOk t) (tr c : Nat) (hc : c < 52) (htr : tr < 256) (w : World) : Calls Tryd.prog 40 #[.agg (tbA t), .int .u8 (c : Int), .int .u8 (tr : Int)] w fun e w' =>
    e = .returned (.tuple #[.agg (tbA (t.put tr c).1), .int .i64 (((t.put tr c).2 : Nat) : Int)]) ∧ Below w.heap.size w w' := by
  have h2 := h.pk.2
  have htl := t.turn_lt
  have hti : (t.turn : Int) < 4 := by omega
  have HK := Lib.hid h
  have HR0 := Lib.hid ((Row.new w 76 (tbA t)).alloc (.cells zeroT 76))
  have HZ0 := Lib.hid (Row.new1 w (.cells (tbA t) 76) 76 zeroT)
  have HB0 : Hid (Below w.heap.size w ((w.alloc (.cells (tbA t) 76)).alloc (.cells zeroT 76))) := Lib.hid (((Below.refl _ _).alloc (Nat.le_refl _) _).alloc (by simp) _)
  go_enter Tryd.func40, Tryd.ntmps40
  go_wp2_with fail
  refine (dm_turn t HK.out _).mono ?_
  rintro e w1 ⟨rfl, hb1⟩
  have HB1 := Lib.hid (HB0.out.trans (hb1.mono HB0.out.size))
  have HR1 := Lib.hid (HR0.out.later hb1)
  have HZ1 := Lib.hid (HZ0.out.later hb1)
  clear hb1 HR0 HZ0 HB0
  have ch := (HR1.out.cell t.turn).trans (tbA_h t _ htl)
  have hf1 := HR1.out.frozen t.turn
  have hmw := HK.out.w64 t.turn
  have hrs := run_shl64 c .u8
  have hand := run_andn64 (t.h t.turn) (shl1 c) hmw (W64.shl1 c)
  have hld := HK.out.ld
  have HP := Lib.hid (tbA_put t c h2 htl)
  obtain ⟨b0, hb0⟩ : ∃ b, w.heap.size = b := ⟨_, rfl⟩
  have HB0 := Lib.hid hb0
  rw [hb0] at HR1 HZ1 ch hf1 ⊢
  clear hb0
  go_upto_region 2 with fail
  have hr2 := HR1.out.set t.turn (.int .u64 ((landn (t.h t.turn) (shl1 c) : Nat) : Int))
  have hz2 := HZ1.out.other (i := t.turn) (v := .int .u64 ((landn (t.h t.turn) (shl1 c) : Nat) : Int)) (show b0 + 1 ≠ b0 by omega)
  have hb2 := HB1.out.setCell (p := ⟨b0, t.turn, none⟩) (by rw [HB0.out]; exact Nat.le_refl _) (.int .u64 ((landn (t.h t.turn) (shl1 c) : Nat) : Int))
  have HR2 := Lib.hid hr2
  have HZ2 := Lib.hid hz2
  have HB2 := Lib.hid hb2
  clear hr2 hz2 hb2 ch hf1 hrs hand
  generalize w1.setCell ⟨b0, t.turn, none⟩ (.int .u64 ((landn (t.h t.turn) (shl1 c) : Nat) : Int)) = W2 at *
  have c5 : W2.cell? ⟨b0, 5, none⟩ = some (.int .u8 (t.cs.length : Int)) := (HR2.out.cell 5).trans (by rw [Array.getElem?_setIfInBounds, if_neg (by omega)]; rfl)
  have c6 : ∃ v, W2.cell? ⟨b0, 6 + t.cs.length, none⟩ = some v := ⟨_, (HR2.out.cell _).trans (by rw [Array.getElem?_setIfInBounds, if_neg (by omega)]; exact tbA_c t _ h2)⟩
  obtain ⟨v6, c6⟩ := c6
  have f6 := HR2.out.frozen (6 + t.cs.length)
  have f5 := HR2.out.frozen 5
  have hni : (t.cs.length : Int) < 4 := by omega
  have hne : ¬ (5 = 6 + t.cs.length) := by omega
  have hne' : ¬ (6 + t.cs.length = 5) := by omega
  obtain ⟨n, hn⟩ : ∃ n, t.cs.length = n := ⟨_, rfl⟩
  have HN := Lib.hid hn
  rw [hn] at c5 c6 f6 h2 hni hne hne'
  clear hn
  go_upto_region 4 with fail
  have hr4 : Row ((W2.setCell ⟨b0, 6 + n, none⟩ (.int .u8 (c : Int))).setCell ⟨b0, 5, none⟩ (.int .u8 ((n : Int) + 1))) b0 76 (tbA (t.push c)) := by
    have := (HR2.out.set (6 + n) (.int .u8 (c : Int))).set 5 (.int .u8 ((n : Int) + 1))
    have e := HP.out
    rw [HN.out] at e
    rw [← e]
    exact this
  have hz4 := (HZ2.out.other (i := 6 + n) (v := .int .u8 (c : Int)) (show b0 + 1 ≠ b0 by omega)).other (i := 5) (v := .int .u8 ((n : Int) + 1)) (show b0 + 1 ≠ b0 by omega)
  have hb4 := (HB2.out.setCell (p := ⟨b0, 6 + n, none⟩) (by rw [HB0.out]; exact Nat.le_refl _) (.int .u8 (c : Int))).setCell (p := ⟨b0, 5, none⟩) (by rw [HB0.out]; exact Nat.le_refl _) (.int .u8 ((n : Int) + 1))
  have HR4 := Lib.hid hr4
  have HZ4 := Lib.hid hz4
  have HB4 := Lib.hid hb4
  clear hr4 hz4 hb4 c5 c6 f6 f5 hne hne' HP HR2 HZ2 HB2 HR1 HZ1
  generalize (W2.setCell ⟨b0, 6 + n, none⟩ (.int .u8 (c : Int))).setCell ⟨b0, 5, none⟩ (.int .u8 ((n : Int) + 1)) = W4 at *
  have HL : Hid ((t.push c).cs.length = n + 1) := Lib.hid (by show (t.cs ++ [c]).length = _; rw [← HN.out]; simp)
  have HX : Hid (∀ i, (t.push c).cs.getD i 0 < 52) := Lib.hid fun i => by
    show (t.cs ++ [c]).getD i 0 < 52
    rw [List.getD_eq_getElem?_getD]
    rcases e : (t.cs ++ [c])[i]? with _ | x
    · exact (by decide : (0 : Nat) < 52)
    · rcases List.mem_append.1 (List.mem_of_getElem? e) with hx | hx
      · exact HK.out.c52 x hx
      · rcases List.mem_singleton.1 hx with rfl; exact hc
  have HLD : Hid ((t.push c).ld < 4) := Lib.hid hld
  have HPUT : Hid (t.put tr c = (t.push c).settle tr) := Lib.hid rfl
  obtain ⟨u, hu⟩ : ∃ u, t.push c = u := ⟨_, rfl⟩
  rw [hu] at HR4 HL HX HLD HPUT
  have c5 : W4.cell? ⟨b0, 5, none⟩ = some (.int .u8 ((n + 1 : Nat) : Int)) := (HR4.out.cell 5).trans (by rw [← HL.out]; rfl)
  clear hu hld hmw HN HK htl hti
  by_cases h3 : n + 1 < 4
  · have hd : decide (((n + 1 : Nat) : Int) < 4) = true := by simp; omega
    have HS : Hid (u.settle tr = (u, 0)) := Lib.hid (by unfold Tb.settle; rw [if_pos (by have := HL.out; omega)])
    obtain ⟨UA, hUA⟩ : ∃ A, tbA u = A := ⟨_, rfl⟩
    have HU : Hid (UA.size = 10 ∧ UA.all (·.oneCell') = true) := Lib.hid (by rw [← hUA]; exact ⟨rfl, tbA_one u⟩)
    have HUA := Lib.hid hUA
    rw [hUA] at HR4
    clear hUA
    go_wp2_with (first
      | refine wpList_load_row rfl 76 (.tmp 3) rfl b0 rfl 76 UA (0, 0) _ HR4.out Tryd.underlying76 rfl (by rw [HU.out.1]; exact size_tb) ?_
      | refine wpList_store_row rfl 76 (.tmp 6) (.tmp 32) rfl (b0 + 1) UA rfl rfl 76 _ HZ4.out (by rw [HU.out.1]; exact size_tb) (by rw [HU.out.1]; rfl) HU.out.2 ?_)
    refine bodyPost_ret (v := .tuple #[.agg UA, .int .i64 0]) (results_two Tryd.results40 _ _ (b0 + 1) _ UA (0, 0) _ rfl (setRow_heap _ _ _ _ _ _ HZ4.out) Tryd.underlying76 rfl (by rw [HU.out.1]; exact size_tb)) rfl ⟨by rw [HPUT.out, HS.out, HUA.out]; rfl, below_setRow HB4.out (by have := HB0.out; omega) _⟩
  · have hd : decide (((n + 1 : Nat) : Int) < 4) = false := by simp; omega
    have HS : Hid (u.settle tr = (⟨u.h, u.win tr, []⟩, 1 - u.win tr % 2)) := Lib.hid (by unfold Tb.settle; rw [if_neg (by have := HL.out; omega)])
    have HC : Hid (∀ k, k < 4 → W4.cell? ⟨b0, 6 + k, none⟩ = some (.int .u8 (u.cs.getD k 0 : Int))) := Lib.hid fun k hk => (HR4.out.cell (6 + k)).trans (tbA_c u k hk)
    have hsz : W4.heap.size = W4.heap.size := rfl
    go_wp2_with fail
    clear c5 hd
    go_loopw [8, 9] (fun bv i wr => ∃ (k : Nat), 1 ≤ k ∧ k ≤ 4 ∧ i = .int .u8 (k : Int) ∧ bv = .int .u8 ((bestTo tr (fun i => u.cs.getD i 0) (k - 1) : Nat) : Int) ∧ Below W4.heap.size W4 wr) (fun _ i _ => 4 - (intOf i).toNat)
    case atStart => exact ⟨1, by omega, by omega, rfl, rfl, Below.refl _ _⟩
    case round =>
      obtain ⟨k, hk1, hk, rfl, rfl, hB⟩ := hrel
      by_cases hlt : k < 4
      · have hdk : decide ((k : Int) < 4) = true := by simp; omega
        have hki : (k : Int) < 4 := by omega
        have HBk := Lib.hid hB
        have hble := bestTo_le tr (fun i => u.cs.getD i 0) (k - 1)
        have HST : Hid (bestTo tr (fun i => u.cs.getD i 0) k = if beatsB tr (u.cs.getD k 0) (u.cs.getD (bestTo tr (fun i => u.cs.getD i 0) (k - 1)) 0) then k else bestTo tr (fun i => u.cs.getD i 0) (k - 1)) := Lib.hid (by
          obtain ⟨j, rfl⟩ : ∃ j, k = j + 1 := ⟨k - 1, by omega⟩
          rfl)
        obtain ⟨b, hb⟩ : ∃ b, bestTo tr (fun i => u.cs.getD i 0) (k - 1) = b := ⟨_, rfl⟩
        rw [hb] at HST hble ⊢
        have hbi : (b : Int) < 4 := by omega
        have e0 := (hB.cell (p := ⟨b0, 6 + k, none⟩) HR4.out.lt).trans (HC.out k hlt)
        have e1 := (hB.cell (p := ⟨b0, 6 + b, none⟩) HR4.out.lt).trans (HC.out b (by omega))
        have hx := HX.out k
        have hy := HX.out b
        obtain ⟨x, hxx⟩ : ∃ x, u.cs.getD k 0 = x := ⟨_, rfl⟩
        obtain ⟨y, hyy⟩ : ∃ y, u.cs.getD b 0 = y := ⟨_, rfl⟩
        rw [hxx] at e0 hx HST
        rw [hyy] at e1 hy HST
        clear hxx hyy hb hB
        have f0 := fun dd os => cell_regrown e0 dd os
        have f1 := fun dd os => cell_regrown e1 dd os
        go_wp2_with fail
        refine wp_region_quiet_below (by kernel_rfl) (by kernel_rfl) ?_
        repeat (first | go_big_quiet_step (fail) | quiet_step (with_reducible exact Calls.regrown_of (dm_beatsB tr x y htr (by omega) (by omega) _)))
        refine wpQuiet_nil ?_
        rintro _ ⟨q, rfl⟩
        have HB5 := Lib.hid (HBk.out.trans ((below_regrown wr q.d q.os).mono HBk.out.size))
        generalize grow (redrawn wr q.d) q.os = wa at *
        clear e0 e1 f0 f1
        cases hbt : beatsB tr x y
        · have HE : Hid (bestTo tr (fun i => u.cs.getD i 0) k = b) := Lib.hid (by rw [HST.out, hbt]; rfl)
          clear HST
          go_wp2_with fail
          exact ⟨⟨k + 1, by omega, by omega, by simp, by rw [show k + 1 - 1 = k by omega, HE.out], HB5.out⟩, by simp [intOf]; omega⟩
        · have HE : Hid (bestTo tr (fun i => u.cs.getD i 0) k = k) := Lib.hid (by rw [HST.out, hbt]; rfl)
          clear HST
          go_wp2_with fail
          exact ⟨⟨k + 1, by omega, by omega, by simp, by rw [show k + 1 - 1 = k by omega, HE.out], HB5.out⟩, by simp [intOf]; omega⟩
      · obtain rfl : k = 4 := by omega
        simp only [show ((4 : Nat) : Int) = 4 from rfl, show 4 - 1 = 3 from rfl]
        have hble := bestTo_le tr (fun i => u.cs.getD i 0) 3
        have HWN : Hid (u.win tr = (u.ld + bestTo tr (fun i => u.cs.getD i 0) 3) % 4) := Lib.hid rfl
        generalize bestTo tr (fun i => u.cs.getD i 0) 3 = b at *
        have HR5 := Lib.hid (HR4.out.later hB)
        have HZ5 := Lib.hid (HZ4.out.later hB)
        have HB5 := Lib.hid (HB4.out.trans (hB.mono HB4.out.size))
        clear hB
        have d4 := HR5.out.cell 4
        have d5 := HR5.out.cell 5
        have d6 := HR5.out.cell 6
        have d7 := HR5.out.cell 7
        have d8 := HR5.out.cell 8
        have d9 := HR5.out.cell 9
        simp only [List.getElem?_toArray, List.getElem?_cons_zero, List.getElem?_cons_succ] at d4 d5 d6 d7 d8 d9
        have f4 := HR5.out.frozen 4
        have f5 := HR5.out.frozen 5
        have f6 := HR5.out.frozen 6
        have f7 := HR5.out.frozen 7
        have f8 := HR5.out.frozen 8
        have f9 := HR5.out.frozen 9
        have hl4 := HLD.out
        have hwn : ((u.ld : Int) + (b : Int)) % 4 = ((u.win tr : Nat) : Int) := by rw [HWN.out]; omega
        have hw4 : u.win tr < 4 := by rw [HWN.out]; omega
        generalize u.win tr = wn at *
        go_upto_region 13 with fail
        have hr6 : Row ((((((wr.setCell ⟨b0, 4, none⟩ (.int .u8 (wn : Int))).setCell ⟨b0, 5, none⟩ (.int .u8 0)).setCell ⟨b0, 6, none⟩ (.int .u8 0)).setCell ⟨b0, 7, none⟩ (.int .u8 0)).setCell ⟨b0, 8, none⟩ (.int .u8 0)).setCell ⟨b0, 9, none⟩ (.int .u8 0)) b0 76 (tbA ⟨u.h, wn, []⟩) :=
          (((((HR5.out.set 4 (.int .u8 (wn : Int))).set 5 (.int .u8 0)).set 6 (.int .u8 0)).set 7 (.int .u8 0)).set 8 (.int .u8 0)).set 9 (.int .u8 0)
        have hz6 := (((((HZ5.out.other (i := 4) (v := .int .u8 (wn : Int)) (show b0 + 1 ≠ b0 by omega)).other (i := 5) (v := .int .u8 0) (show b0 + 1 ≠ b0 by omega)).other (i := 6) (v := .int .u8 0) (show b0 + 1 ≠ b0 by omega)).other (i := 7) (v := .int .u8 0) (show b0 + 1 ≠ b0 by omega)).other (i := 8) (v := .int .u8 0) (show b0 + 1 ≠ b0 by omega)).other (i := 9) (v := .int .u8 0) (show b0 + 1 ≠ b0 by omega)
        have hle : w.heap.size ≤ b0 := by rw [HB0.out]; exact Nat.le_refl _
        have hb6 := (((((HB5.out.setCell (p := ⟨b0, 4, none⟩) hle (.int .u8 (wn : Int))).setCell (p := ⟨b0, 5, none⟩) hle (.int .u8 0)).setCell (p := ⟨b0, 6, none⟩) hle (.int .u8 0)).setCell (p := ⟨b0, 7, none⟩) hle (.int .u8 0)).setCell (p := ⟨b0, 8, none⟩) hle (.int .u8 0)).setCell (p := ⟨b0, 9, none⟩) hle (.int .u8 0)
        have HR6 := Lib.hid hr6
        have HZ6 := Lib.hid hz6
        have HB6 := Lib.hid hb6
        clear hr6 hz6 hb6 d4 d5 d6 d7 d8 d9 f4 f5 f6 f7 f8 f9 HR5 HZ5 HB5
        generalize (((((wr.setCell ⟨b0, 4, none⟩ (.int .u8 (wn : Int))).setCell ⟨b0, 5, none⟩ (.int .u8 0)).setCell ⟨b0, 6, none⟩ (.int .u8 0)).setCell ⟨b0, 7, none⟩ (.int .u8 0)).setCell ⟨b0, 8, none⟩ (.int .u8 0)).setCell ⟨b0, 9, none⟩ (.int .u8 0) = W6 at *
        obtain ⟨VA, hVA⟩ : ∃ A, tbA ⟨u.h, wn, []⟩ = A := ⟨_, rfl⟩
        have HV : Hid (VA.size = 10 ∧ VA.all (·.oneCell') = true ∧ VA[4]? = some (.int .u8 (wn : Int))) := Lib.hid (by rw [← hVA]; exact ⟨rfl, tbA_one _, rfl⟩)
        have HVA := Lib.hid hVA
        rw [hVA] at HR6
        clear hVA hwn hl4 hble
        have hm2 : (wn : Int) % 2 = ((wn % 2 : Nat) : Int) := by omega
        have hm2' : wn % 2 ≤ 1 := by omega
        have HM2 : Hid (((1 - wn % 2 : Nat) : Int) = 1 - ((wn % 2 : Nat) : Int)) := Lib.hid (by omega)
        generalize wn % 2 = r2 at *
        have hle2 : w.heap.size ≤ b0 + 1 := by omega
        refine wp_region_reliesS (FV [.agg VA, .pointer (some ⟨b0, 4, none⟩), .int .u8 (wn : Int), .int .u8 (r2 : Int), .int .i64 (r2 : Int), .int .i64 (1 - (r2 : Int)), undef, .int .i64 (1 - (r2 : Int))] 6
          (fun b W => Below w.heap.size w W ∧ Row W b0 76 VA ∧ if b then Row W (b0 + 1) 76 VA else Row W (b0 + 1) 76 zeroT)) (by kernel_rfl) (by kernel_rfl) (by kernel_rfl) (by kernel_rfl) (FV.start _ _ ⟨HB6.out.drew, HR6.out.later (Below.refl _ _).drew, HZ6.out.later (Below.refl _ _).drew⟩) ?obls ?fini
        case obls =>
          refine ⟨?_, ?_, ?_, ?_, ?_, ?_, ?_, ?_, trivial⟩
          · rintro ρ f W hF hfi hw hcl hf
            have f3 : ρ (.tmp 3) = .pointer (some ⟨b0, 0, none⟩) := hf.1 3 (by simp [Op.operands])
            exact ok_value (exec_load_row 76 (.tmp 3) rfl b0 f3 hF.st.2.1 Tryd.underlying76 rfl (by rw [HV.out.1]; exact size_tb)) (hF.pure 0 _ (by decide) rfl fun _ h => h)
          · rintro ρ f W hF hfi hw hcl hf
            have f3 : ρ (.tmp 3) = .pointer (some ⟨b0, 0, none⟩) := hf.1 3 (by simp [Op.operands])
            refine ok_value (v := .pointer (some ⟨b0, 4, none⟩)) (w' := W) ?_ (hF.pure 1 _ (by decide) rfl fun _ h => h)
            simp [execOp, f3, go_sem]
          · rintro ρ f W hF hfi hw hcl hf
            have f58 : ρ (.tmp 58) = .pointer (some ⟨b0, 4, none⟩) := hF.val 1 _ _ (hf.1 58 (by simp [Op.operands])) rfl
            have c4 := (hF.st.2.1.cell 4).trans HV.out.2.2
            refine ok_value (v := .int .u8 (wn : Int)) (w' := W) ?_ (hF.pure 2 _ (by decide) rfl fun _ h => h)
            simp [execOp, f58, go_sem, c4]
          · rintro ρ f W hF hfi hw hcl hf
            have f59 : ρ (.tmp 59) = .int .u8 (wn : Int) := hF.val 2 _ _ (hf.1 59 (by simp [Op.operands])) rfl
            refine ok_value (v := .int .u8 (r2 : Int)) (w' := W) ?_ (hF.pure 3 _ (by decide) rfl fun _ h => h)
            have h256 : Int.tmod (wn : Int) 2 = (r2 : Int) := by rw [Int.tmod_eq_emod_of_nonneg (by omega)]; exact hm2
            simp [execOp, f59, go_sem, hf.2.1, h256]
          · rintro ρ f W hF hfi hw hcl hf
            have f60 : ρ (.tmp 60) = .int .u8 (r2 : Int) := hF.val 3 _ _ (hf.1 60 (by simp [Op.operands])) rfl
            refine ok_value (v := .int .i64 (r2 : Int)) (w' := W) ?_ (hF.pure 4 _ (by decide) rfl fun _ h => h)
            have hwr2 : IntKind.i64.wrap (r2 : Int) = (r2 : Int) := IntWalk.i64_in _ (by omega)
            simp [execOp, f60, go_sem, hwr2]
          · rintro ρ f W hF hfi hw hcl hf
            have f61 : ρ (.tmp 61) = .int .i64 (r2 : Int) := hF.val 4 _ _ (hf.1 61 (by simp [Op.operands])) rfl
            refine ok_value (v := .int .i64 (1 - (r2 : Int))) (w' := W) ?_ (hF.pure 5 _ (by decide) rfl fun _ h => h)
            have hwr : IntKind.i64.wrap (1 - (r2 : Int)) = 1 - (r2 : Int) := IntWalk.i64_in _ (by omega)
            simp [execOp, f61, go_sem, hf.2.1, hwr]
          · rintro ρ f W hF hfi hw hcl hf
            have f6 : ρ (.tmp 6) = .pointer (some ⟨b0 + 1, 0, none⟩) := hf.1 6 (by simp [Op.operands])
            have f57 : ρ (.tmp 57) = .agg VA := hF.val 0 _ _ (hf.1 57 (by simp [Op.operands])) rfl
            have hs := hF.st
            rw [hfi] at hs
            exact ok_skip (exec_store_row 76 (.tmp 6) (.tmp 57) rfl (b0 + 1) VA f6 f57 hs.2.2 (by rw [HV.out.1]; exact size_tb) (by rw [HV.out.1]; rfl) HV.out.2.1)
              (hF.write _ rfl hfi fun h => ⟨below_setRow h.1 hle2 _, h.2.1.same (setRow_other _ _ _ _ (by omega)), setRow_heap _ _ _ _ _ _ h.2.2⟩)
          · rintro ρ f W hF hfi hw hcl hf
            have f62 : ρ (.tmp 62) = .int .i64 (1 - (r2 : Int)) := hF.val 5 _ _ (hf.1 62 (by simp [Op.operands])) rfl
            refine ok_value (v := .int .i64 (1 - (r2 : Int))) (w' := W) ?_ (hF.pure 7 _ (by decide) rfl fun _ h => h)
            simp [execOp, f62]
        case fini =>
          rintro vs w8 hlen hF
          have hl0 : vs.length = 8 := hlen
          match vs, hl0 with
          | [v0, v1, v2, v3, v4, v5, v6, v7], _ =>
            obtain rfl := hF.val 7 v7 _ rfl rfl
            have hst := hF.st
            simp only [putAll, List.zip_cons_cons, List.zip_nil_right, List.foldl_cons, List.foldl_nil]
            simp only [Act.put, List.setIfInBounds_toArray, List.set_cons_succ, List.set_cons_zero]
            have HB8 := Lib.hid hst.1
            have HZ8 : Hid (Row w8 (b0 + 1) 76 VA) := Lib.hid hst.2.2
            clear hst hF hlen
            go_wp2_with fail
            refine bodyPost_ret (v := .tuple #[.agg VA, .int .i64 (1 - (r2 : Int))]) (results_two Tryd.results40 _ _ (b0 + 1) _ VA (0, 0) _ rfl HZ8.out Tryd.underlying76 rfl (by rw [HV.out.1]; exact size_tb)) rfl ⟨by rw [HPUT.out, HS.out, ← HVA.out, HM2.out], HB8.out⟩
end Go.Proofs.YtnbillhodbcfbaaDoor
