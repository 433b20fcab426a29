/- ClS, ClT, ClV0, ClW, ClY, ClX in one text. -/
import Derived.Test.YtnbillhodbcfbaaDoorClR
import Derived.Test.YtnbillhodbcfbaaDoorDmRb
import Derived.Deep.AppendSrc
import Derived.Deep.Upon
import Derived.Laws.BytesArg

/- The example of the chapter: its numbers, in plain Lean. -/
namespace Go.Proofs.YtnbillhodbcfbaaDoor
open Go.RowKit Go.Sort Go.Shelf Go.Maps Go.WideMaps

def CH : Nat → Nat
  | 0 => 2814749767106560
  | 1 => 67125248
  | 2 => 549755822080
  | 3 => 1126999418470400
  | _ => 0
def CL : List Nat := [39, 49, 51]
def CT : Tb := ⟨CH, 2, []⟩
theorem ch_w64 : ∀ s, W64 (CH s)
  | 0 => by unfold W64 CH; decide
  | 1 => by unfold W64 CH; decide
  | 2 => by unfold W64 CH; decide
  | 3 => by unfold W64 CH; decide
  | _ + 4 => W64.zero
theorem ch_right : rightB CH 4 2 [] = true := by decide +kernel
theorem ch_pop : pop (CH ((2 + ([] : List Nat).length) % 4)) = 2 := by decide +kernel
theorem ch_claim (tk : Int) (h0 : 0 ≤ tk) (h2 : tk ≤ 2) (sd : Nat) (hs : sd < 2) : claimB sd tk CL 2 = true := by
  unfold claimB
  rw [show playOk (fun _ => 0) CL CL.length = true by decide +kernel, decide_eq_true (show sd ≤ 1 by omega), decide_eq_true h0, decide_eq_true (show tk ≤ ((2 : Nat) : Int) by omega)]
  rfl
theorem ch_sure : mn 0 4 false CL 8 CT = 1 := by decide +kernel
theorem ch_must0 : mn 0 4 true [] 8 CT = 0 := by decide +kernel
theorem ch_must1 : mn 1 4 true [] 8 CT = 0 := by decide +kernel
theorem ch_best : bestV 0 4 2 8 CT = 2 := by decide +kernel
theorem ch_next : lineC CL CT = 39 := by decide +kernel
theorem ch_can : canM CT ≠ 0 := by decide +kernel
theorem ch_turn : CT.turn % 2 = 0 := by decide +kernel
theorem ch_against : ∃ r, agL 0 4 CL 8 CT = 39 :: 50 :: 49 :: r := ⟨(agL 0 4 CL 8 CT).drop 3, by decide +kernel⟩
end Go.Proofs.YtnbillhodbcfbaaDoor

/- The example of the chapter over this seat's program: Example, awake. -/
namespace Go.Proofs.YtnbillhodbcfbaaDoor
open Go.RowKit Go.Sort Go.Shelf Go.Maps Go.WideMaps

theorem results_cellt {P : Program} {fn : Func} {p q : Tmp} {ty : TypeId} (h : fn.results = #[.cell p ty, .tmp q]) (tmps : Array Value) (w : World) (g : Nat) (t : TypeId) (cs : Array Value) (fr : Nat × Nat) (d : TypeDesc)
    (hp : tmps.getD p undef = .pointer (some ⟨g, 0, none⟩)) (hg : w.heap[g]? = some (.cells cs t fr))
    (hu : P.underlying ty = some d) (hd : (match d with | .struct _ | .array _ _ => true | _ => false) = true) (hi : (P.info? ty).map (·.size) = some cs.size) :
    (results fn tmps).run P w = .ok (.tuple #[.agg cs, tmps.getD q undef]) w := by
  have hp' : tmps[p]?.getD undef = .pointer (some ⟨g, 0, none⟩) := by simpa using hp
  simp [results, h, hp', asAddr, run_loadVar_row w g t ty cs fr d hg hu hd hi]
theorem ch_nil (w : World) : Byt w none ([] : List Nat).length [] := ⟨rfl, by simp, fun i => by simp, .inl rfl⟩
theorem cx_sure : mn 0 4 false CL (4 * 2 - ([] : List Nat).length) ⟨CH, 2, []⟩ = 1 := by decide +kernel
theorem cx_sure0 : mn 1 4 false [] (4 * 2 - ([] : List Nat).length) ⟨CH, 2, []⟩ = mn 1 4 false [] (4 * 2 - ([] : List Nat).length) ⟨CH, 2, []⟩ := rfl
theorem cx_must0 : mn 0 4 true [] (4 * 2 - ([] : List Nat).length) ⟨CH, 2, []⟩ = 0 := by decide +kernel
theorem cx_must1 : mn 1 4 true [] (4 * 2 - ([] : List Nat).length) ⟨CH, 2, []⟩ = 0 := by decide +kernel
theorem cx_best : bestV 0 4 2 (4 * 2 - ([] : List Nat).length) ⟨CH, 2, []⟩ = 2 := by decide +kernel
theorem cx_next : lineC CL ⟨CH, 2, []⟩ = 39 := by decide +kernel
theorem cx_against : ∃ r, agL 0 4 CL (4 * 2 - ([] : List Nat).length) ⟨CH, 2, []⟩ = 39 :: 50 :: 49 :: r := ⟨(agL 0 4 CL 8 CT).drop 3, by decide +kernel⟩
theorem cl_52 : ∀ y ∈ CL, y < 52 := by decide
set_option maxRecDepth 10000 in
theorem cl_Example (w : World) : Calls Tryd.prog 10 #[] w fun e w' => e = .returned (.tuple #[.agg (posA CH 4 2 (.slice none 0 0)), .slice (some ⟨w.heap.size + 1, 0, none⟩) 3 3]) ∧ Byt w' (some ⟨w.heap.size + 1, 0, none⟩) 3 CL ∧ Below w.heap.size w w' := by
  have HR := Lib.hid ((Row.new w 27 zeroP).alloc (.cells #[.int .u8 39, .int .u8 49, .int .u8 51] 5))
  have hb := ((Below.refl w.heap.size w).alloc (Nat.le_refl _) (.cells zeroP 27)).alloc (by simp) (.cells #[.int .u8 39, .int .u8 49, .int .u8 51] 5)
  have HB := Lib.hid hb
  have hs : (w.alloc (.cells zeroP 27)).heap.size = w.heap.size + 1 := by simp
  have hL := Row.new (w.alloc (.cells zeroP 27)) 5 #[.int .u8 39, .int .u8 49, .int .u8 51]
  rw [hs] at hL
  have HL := Lib.hid (hL.same (setRow_other ((w.alloc (.cells zeroP 27)).alloc (.cells #[.int .u8 39, .int .u8 49, .int .u8 51] 5)) w.heap.size (w.heap.size + 1) (posA CH 4 2 (.slice none 0 0)) (by omega)))
  have HS := Lib.hid (show ((w.alloc (.cells zeroP 27)).alloc (.cells #[.int .u8 39, .int .u8 49, .int .u8 51] 5)).heap.size = w.heap.size + 2 by simp)
  clear hb hs hL
  go_enter Tryd.func10, Tryd.ntmps10
  go_wp2_with (refine wpList_store_row rfl 27 (.tmp 0) (.tmp 3) rfl w.heap.size (posA CH 4 2 (.slice none 0 0)) rfl rfl 27 _ HR.out size_pos rfl (by simp [posA, Value.oneCell']) ?_)
  have hfin : Below w.heap.size w (((w.alloc (.cells zeroP 27)).alloc (.cells #[.int .u8 39, .int .u8 49, .int .u8 51] 5)).setRow w.heap.size (posA CH 4 2 (.slice none 0 0))) := below_setRow HB.out (Nat.le_refl _) _
  have hlt := HL.out.lt
  refine bodyPost_ret (v := .tuple #[.agg (posA CH 4 2 (.slice none 0 0)), .slice (some ⟨w.heap.size + 1, 0, none⟩) 3 3]) ((results_cellt Tryd.results10 _ _ w.heap.size _ (posA CH 4 2 (.slice none 0 0)) (0, 0) _ rfl (setRow_heap _ _ _ _ _ _ HR.out) Tryd.underlying27 rfl size_pos).trans (by simp)) rfl ⟨rfl, ⟨rfl, by decide, fun i => ?_, .inr ⟨w.heap.size + 1, 0, rfl, hlt, fun i hi => ?_⟩⟩, hfin⟩
  · rcases i with _ | _ | _ | i <;> simp [CL]
  · rcases (show i = 0 ∨ i = 1 ∨ i = 2 by omega) with rfl | rfl | rfl
    · exact (HL.out.cell 0)
    · exact (HL.out.cell 1)
    · exact (HL.out.cell 2)
set_option maxHeartbeats 4000000 in
set_option maxRecDepth 10000 in
theorem cl_awake (w : World) (hT : Tab w) : Calls Tryd.prog 14 #[] w fun e w' => e = .returned (.bool true) ∧ Below w.heap.size w w' := by
  obtain ⟨l, hl⟩ : ∃ b, w.heap.size + 1 = b := ⟨_, rfl⟩
  have HEX := Lib.hid (cl_Example w)
  rw [hl] at HEX
  obtain ⟨PA, hPA0⟩ : ∃ A, posA CH 4 2 (.slice none 0 0) = A := ⟨_, rfl⟩
  rw [hPA0] at HEX
  have HSure02 : Hid (∀ W, Tab W → Byt W (some ⟨l, 0, none⟩) 3 CL → Calls Tryd.prog 17 #[.agg PA, .agg #[.int .u8 0, .int .i64 2, .slice (some ⟨l, 0, none⟩) 3 3]] W fun e w' => e = .returned (.tuple #[.int .i64 1, .int .i64 0]) ∧ Below W.heap.size W w') := Lib.hid (fun W hT hL => by
    have hlt : l < W.heap.size := by
      obtain ⟨b, off, e, h, -⟩ := hL.at (by decide)
      injection e with e
      injection e with e
      omega
    have h := cl_Sure_ok CH 4 2 [] none 0 0 2 CL (some ⟨l, 0, none⟩) 3 ch_w64 (by decide) (by decide) (by decide) W (ch_nil W) hL (fun b off e => by injection e with e; injection e with e; omega) hT 2 ch_pop (by decide) ch_right (ch_claim 2 (by decide) (by decide) 0 (by decide)) cl_52
    rw [cx_sure] at h
    rw [← hPA0]
    exact h)
  have HAward02 : Hid (∀ W, Tab W → Byt W (some ⟨l, 0, none⟩) 3 CL → Calls Tryd.prog 24 #[.agg PA, .agg #[.int .u8 0, .int .i64 2, .slice (some ⟨l, 0, none⟩) 3 3]] W fun e w' => e = .returned (.tuple #[.int .i64 1, .int .i64 0]) ∧ Below W.heap.size W w') := Lib.hid (fun W hT hL => by
    have hlt : l < W.heap.size := by
      obtain ⟨b, off, e, h, -⟩ := hL.at (by decide)
      injection e with e
      injection e with e
      omega
    have h := cl_Award_ok CH 4 2 [] none 0 0 2 CL (some ⟨l, 0, none⟩) 3 ch_w64 (by decide) (by decide) (by decide) W (ch_nil W) hL (fun b off e => by injection e with e; injection e with e; omega) hT 2 ch_pop (by decide) ch_right (ch_claim 2 (by decide) (by decide) 0 (by decide)) cl_52
    rw [cx_sure, cx_must0] at h
    rw [← hPA0]
    exact h)
  have HAward00 : Hid (∀ W, Tab W → Byt W (some ⟨l, 0, none⟩) 3 CL → Calls Tryd.prog 24 #[.agg PA, .agg #[.int .u8 0, .int .i64 0, .slice (some ⟨l, 0, none⟩) 3 3]] W fun e w' => e = .returned (.tuple #[.int .i64 0, .int .i64 0]) ∧ Below W.heap.size W w') := Lib.hid (fun W hT hL => by
    have hlt : l < W.heap.size := by
      obtain ⟨b, off, e, h, -⟩ := hL.at (by decide)
      injection e with e
      injection e with e
      omega
    have h := cl_Award_ok CH 4 2 [] none 0 0 0 CL (some ⟨l, 0, none⟩) 3 ch_w64 (by decide) (by decide) (by decide) W (ch_nil W) hL (fun b off e => by injection e with e; injection e with e; omega) hT 2 ch_pop (by decide) ch_right (ch_claim 0 (by decide) (by decide) 0 (by decide)) cl_52
    rw [cx_sure, cx_must0] at h
    rw [← hPA0]
    exact h)
  have HNext02 : Hid (∀ W, Tab W → Byt W (some ⟨l, 0, none⟩) 3 CL → Calls Tryd.prog 22 #[.agg PA, .agg #[.int .u8 0, .int .i64 2, .slice (some ⟨l, 0, none⟩) 3 3]] W fun e w' => e = .returned (.tuple #[.int .u8 39, .int .i64 0]) ∧ Below W.heap.size W w') := Lib.hid (fun W hT hL => by
    have hlt : l < W.heap.size := by
      obtain ⟨b, off, e, h, -⟩ := hL.at (by decide)
      injection e with e
      injection e with e
      omega
    have h := cl_Next_ok CH 4 2 [] none 0 0 2 CL (some ⟨l, 0, none⟩) 3 ch_w64 (by decide) (by decide) (by decide) W (ch_nil W) hL  hT 2 ch_pop  ch_right (ch_claim 2 (by decide) (by decide) 0 (by decide)) cl_52 ch_can ch_turn
    rw [cx_next] at h
    rw [← hPA0]
    exact h)
  have HAgainst02 : Hid (∀ W, Tab W → Byt W (some ⟨l, 0, none⟩) 3 CL → Calls Tryd.prog 20 #[.agg PA, .agg #[.int .u8 0, .int .i64 2, .slice (some ⟨l, 0, none⟩) 3 3]] W fun e w' => AgainstOk (agL 0 4 CL (4 * 2 - ([] : List Nat).length) ⟨CH, 2, []⟩) W e w') := Lib.hid (fun W hT hL => by
    have hlt : l < W.heap.size := by
      obtain ⟨b, off, e, h, -⟩ := hL.at (by decide)
      injection e with e
      injection e with e
      omega
    have h := cl_Against_ok CH 4 2 [] none 0 0 2 CL (some ⟨l, 0, none⟩) 3 ch_w64 (by decide) (by decide) (by decide) W (ch_nil W) hL (fun b off e => by injection e with e; injection e with e; omega) hT 2 ch_pop (by decide) ch_right (ch_claim 2 (by decide) (by decide) 0 (by decide)) cl_52
    skip
    rw [← hPA0]
    exact h)
  have HMU0 : Hid (∀ W, Tab W → Calls Tryd.prog 18 #[.agg PA, .int .u8 0] W fun e w' => e = .returned (.tuple #[.int .i64 0, .int .i64 0]) ∧ Below W.heap.size W w') := Lib.hid (fun W hT => by
    have h := cl_Must_ok CH 4 2 [] none 0 0 ch_w64 (by decide) (by decide) (by decide) W (ch_nil W) hT 2 ch_pop (by decide) ch_right
    rw [cx_must0] at h
    rw [← hPA0]
    exact h)
  have HMU1 : Hid (∀ W, Tab W → Calls Tryd.prog 18 #[.agg PA, .int .u8 1] W fun e w' => e = .returned (.tuple #[.int .i64 0, .int .i64 0]) ∧ Below W.heap.size W w') := Lib.hid (fun W hT => by
    have h := cl_Must_ok CH 4 2 [] none 0 1 ch_w64 (by decide) (by decide) (by decide) W (ch_nil W) hT 2 ch_pop (by decide) ch_right
    rw [cx_must1] at h
    rw [← hPA0]
    exact h)
  have HBE : Hid (∀ W, Tab W → Calls Tryd.prog 19 #[.agg PA, .int .u8 0] W fun e w' => e = .returned (.tuple #[.int .i64 2, .int .i64 0]) ∧ Below W.heap.size W w') := Lib.hid (fun W hT => by
    have h := cl_Best_ok CH 4 2 [] none 0 0 ch_w64 (by decide) (by decide) (by decide) W (ch_nil W) hT 2 ch_pop (by decide) ch_right
    rw [cx_best] at h
    rw [← hPA0]
    exact h)
  have HNT : Hid (∀ W, Tab W → Calls Tryd.prog 22 #[.agg PA, .agg #[.int .u8 1, .int .i64 0, .slice none 0 0]] W fun e w' => e = .returned (.tuple #[.int .u8 0, .int .i64 160]) ∧ Below W.heap.size W w') := Lib.hid (fun W hT => by
    have h := cl_Next_turn CH 4 2 [] none 0 1 0 [] none 0 ch_w64 (by decide) (by decide) (by decide) W (ch_nil W) (ch_nil W) hT 2 ch_pop ch_right (by decide +kernel) (by simp) ch_can (by decide +kernel)
    rw [← hPA0]
    exact h)
  have HZ : Hid (PA.size = 7 ∧ PA.all (·.oneCell') = true) := Lib.hid (by rw [← hPA0]; exact ⟨rfl, by simp [posA, Value.oneCell']⟩)
  have HT := Lib.hid hT
  have HL0 := Lib.hid hl
  clear hl hPA0 hT
  go_enter Tryd.func14, Tryd.ntmps14
  go_wp2_with fail
  refine HEX.out.mono ?_
  rintro e w1 ⟨rfl, hz1, hb1⟩
  have HN := Lib.hid (Row.new w1 27 zeroP)
  have ha := below_setRow ((Below.refl w1.heap.size w1).alloc (Nat.le_refl _) (.cells zeroP 27)) (Nat.le_refl _) PA
  have HR := Lib.hid (show Row ((w1.alloc (.cells zeroP 27)).setRow w1.heap.size PA) w1.heap.size 27 PA from setRow_heap _ _ _ _ _ _ HN.out)
  have HB := Lib.hid (hb1.trans (ha.mono hb1.size))
  have HY := Lib.hid (hz1.below (Nat.le_refl _) ha)
  clear hb1 ha hz1
  go_upto_region 2 with (refine wpList_store_row rfl 27 (.tmp 1) (.tmp 24) rfl w1.heap.size PA rfl rfl 27 _ HN.out (by rw [HZ.out.1]; exact size_pos) (by rw [HZ.out.1]; rfl) HZ.out.2 ?_)
  generalize (w1.alloc (.cells zeroP 27)).setRow w1.heap.size PA = w2 at *
  obtain ⟨b1, hb1⟩ : ∃ b, w1.heap.size = b := ⟨_, rfl⟩
  rw [hb1] at HR ⊢
  clear hb1 HN HEX
  go_upto_region 3 with fail
  have HC3 := Lib.hid (Row.new w2 44 #[.int .u8 0, .int .i64 2, .slice (some ⟨l, 0, none⟩) 3 3])
  have ha := (Below.refl w2.heap.size w2).alloc (Nat.le_refl _) (.cells #[.int .u8 0, .int .i64 2, .slice (some ⟨l, 0, none⟩) 3 3] 44)
  have HR3 := Lib.hid (HR.out.later ha)
  have HB3 := Lib.hid (HB.out.trans (ha.mono HB.out.size))
  have HY3 := Lib.hid (HY.out.below (Nat.le_refl _) ha)
  have HT3 := Lib.hid (HT.out.below HT.out.pos HB3.out)
  clear ha HR HB HY
  generalize w2.alloc (.cells #[.int .u8 0, .int .i64 2, .slice (some ⟨l, 0, none⟩) 3 3] 44) = w3 at *
  obtain ⟨b3, hb3⟩ : ∃ b, w2.heap.size = b := ⟨_, rfl⟩
  rw [hb3] at HC3 ⊢
  clear hb3
  go_wp2_with (first
    | refine wpList_load_row rfl 27 (.tmp 1) rfl b1 rfl 27 PA (0, 0) _ HR3.out Tryd.underlying27 rfl (by rw [HZ.out.1]; exact size_pos) ?_
    | refine wpList_load_row rfl 44 (.tmp 3) rfl b3 rfl 44 #[.int .u8 0, .int .i64 2, .slice (some ⟨l, 0, none⟩) 3 3] (0, 0) _ HC3.out Tryd.underlying44 rfl size_cm ?_)
  refine (HSure02.out w3 HT3.out HY3.out).mono ?_
  rintro e w4 ⟨rfl, hb⟩
  have HR4 := Lib.hid (HR3.out.later hb)
  have HC4 := Lib.hid (HC3.out.later hb)
  have HB4 := Lib.hid (HB3.out.trans (hb.mono HB3.out.size))
  have HY4 := Lib.hid (HY3.out.below (Nat.le_refl _) hb)
  have HT4 := Lib.hid (HT3.out.below HT3.out.pos hb)
  clear hb HR3 HC3 HB3 HY3 HT3
  go_wp2_with (first
    | refine wpList_load_row rfl 27 (.tmp 1) rfl b1 rfl 27 PA (0, 0) _ HR4.out Tryd.underlying27 rfl (by rw [HZ.out.1]; exact size_pos) ?_
    | refine wpList_load_row rfl 44 (.tmp 3) rfl b3 rfl 44 #[.int .u8 0, .int .i64 2, .slice (some ⟨l, 0, none⟩) 3 3] (0, 0) _ HC4.out Tryd.underlying44 rfl size_cm ?_)
  refine (HMU0.out w4 HT4.out).mono ?_
  rintro e w5 ⟨rfl, hb⟩
  have HR5 := Lib.hid (HR4.out.later hb)
  have HC5 := Lib.hid (HC4.out.later hb)
  have HB5 := Lib.hid (HB4.out.trans (hb.mono HB4.out.size))
  have HY5 := Lib.hid (HY4.out.below (Nat.le_refl _) hb)
  have HT5 := Lib.hid (HT4.out.below HT4.out.pos hb)
  clear hb HR4 HC4 HB4 HY4 HT4
  go_wp2_with (first
    | refine wpList_load_row rfl 27 (.tmp 1) rfl b1 rfl 27 PA (0, 0) _ HR5.out Tryd.underlying27 rfl (by rw [HZ.out.1]; exact size_pos) ?_
    | refine wpList_load_row rfl 44 (.tmp 3) rfl b3 rfl 44 #[.int .u8 0, .int .i64 2, .slice (some ⟨l, 0, none⟩) 3 3] (0, 0) _ HC5.out Tryd.underlying44 rfl size_cm ?_)
  refine (HBE.out w5 HT5.out).mono ?_
  rintro e w6 ⟨rfl, hb⟩
  have HR6 := Lib.hid (HR5.out.later hb)
  have HC6 := Lib.hid (HC5.out.later hb)
  have HB6 := Lib.hid (HB5.out.trans (hb.mono HB5.out.size))
  have HY6 := Lib.hid (HY5.out.below (Nat.le_refl _) hb)
  have HT6 := Lib.hid (HT5.out.below HT5.out.pos hb)
  clear hb HR5 HC5 HB5 HY5 HT5
  go_wp2_with (first
    | refine wpList_load_row rfl 27 (.tmp 1) rfl b1 rfl 27 PA (0, 0) _ HR6.out Tryd.underlying27 rfl (by rw [HZ.out.1]; exact size_pos) ?_
    | refine wpList_load_row rfl 44 (.tmp 3) rfl b3 rfl 44 #[.int .u8 0, .int .i64 2, .slice (some ⟨l, 0, none⟩) 3 3] (0, 0) _ HC6.out Tryd.underlying44 rfl size_cm ?_)
  refine (HMU1.out w6 HT6.out).mono ?_
  rintro e w7 ⟨rfl, hb⟩
  have HR7 := Lib.hid (HR6.out.later hb)
  have HC7 := Lib.hid (HC6.out.later hb)
  have HB7 := Lib.hid (HB6.out.trans (hb.mono HB6.out.size))
  have HY7 := Lib.hid (HY6.out.below (Nat.le_refl _) hb)
  have HT7 := Lib.hid (HT6.out.below HT6.out.pos hb)
  clear hb HR6 HC6 HB6 HY6 HT6
  go_wp2_with (first
    | refine wpList_load_row rfl 27 (.tmp 1) rfl b1 rfl 27 PA (0, 0) _ HR7.out Tryd.underlying27 rfl (by rw [HZ.out.1]; exact size_pos) ?_
    | refine wpList_load_row rfl 44 (.tmp 3) rfl b3 rfl 44 #[.int .u8 0, .int .i64 2, .slice (some ⟨l, 0, none⟩) 3 3] (0, 0) _ HC7.out Tryd.underlying44 rfl size_cm ?_)
  refine (HAward02.out w7 HT7.out HY7.out).mono ?_
  rintro e w8 ⟨rfl, hb⟩
  have HR8 := Lib.hid (HR7.out.later hb)
  have HC8 := Lib.hid (HC7.out.later hb)
  have HB8 := Lib.hid (HB7.out.trans (hb.mono HB7.out.size))
  have HY8 := Lib.hid (HY7.out.below (Nat.le_refl _) hb)
  have HT8 := Lib.hid (HT7.out.below HT7.out.pos hb)
  clear hb HR7 HC7 HB7 HY7 HT7
  go_wp2_with (first
    | refine wpList_load_row rfl 27 (.tmp 1) rfl b1 rfl 27 PA (0, 0) _ HR8.out Tryd.underlying27 rfl (by rw [HZ.out.1]; exact size_pos) ?_
    | refine wpList_load_row rfl 44 (.tmp 3) rfl b3 rfl 44 #[.int .u8 0, .int .i64 2, .slice (some ⟨l, 0, none⟩) 3 3] (0, 0) _ HC8.out Tryd.underlying44 rfl size_cm ?_)
  refine (HAward00.out w8 HT8.out HY8.out).mono ?_
  rintro e w9 ⟨rfl, hb⟩
  have HR9 := Lib.hid (HR8.out.later hb)
  have HC9 := Lib.hid (HC8.out.later hb)
  have HB9 := Lib.hid (HB8.out.trans (hb.mono HB8.out.size))
  have HY9 := Lib.hid (HY8.out.below (Nat.le_refl _) hb)
  have HT9 := Lib.hid (HT8.out.below HT8.out.pos hb)
  clear hb HR8 HC8 HB8 HY8 HT8
  go_wp2_with (first
    | refine wpList_load_row rfl 27 (.tmp 1) rfl b1 rfl 27 PA (0, 0) _ HR9.out Tryd.underlying27 rfl (by rw [HZ.out.1]; exact size_pos) ?_
    | refine wpList_load_row rfl 44 (.tmp 3) rfl b3 rfl 44 #[.int .u8 0, .int .i64 2, .slice (some ⟨l, 0, none⟩) 3 3] (0, 0) _ HC9.out Tryd.underlying44 rfl size_cm ?_)
  refine (HNext02.out w9 HT9.out HY9.out).mono ?_
  rintro e w10 ⟨rfl, hb⟩
  have HR10 := Lib.hid (HR9.out.later hb)
  have HC10 := Lib.hid (HC9.out.later hb)
  have HB10 := Lib.hid (HB9.out.trans (hb.mono HB9.out.size))
  have HY10 := Lib.hid (HY9.out.below (Nat.le_refl _) hb)
  have HT10 := Lib.hid (HT9.out.below HT9.out.pos hb)
  clear hb HR9 HC9 HB9 HY9 HT9
  go_wp2_with (first
    | refine wpList_load_row rfl 27 (.tmp 1) rfl b1 rfl 27 PA (0, 0) _ HR10.out Tryd.underlying27 rfl (by rw [HZ.out.1]; exact size_pos) ?_
    | refine wpList_load_row rfl 44 (.tmp 3) rfl b3 rfl 44 #[.int .u8 0, .int .i64 2, .slice (some ⟨l, 0, none⟩) 3 3] (0, 0) _ HC10.out Tryd.underlying44 rfl size_cm ?_)
  refine (HAgainst02.out w10 HT10.out HY10.out).mono ?_
  rintro e w11 ⟨v, rfl, hown, hb⟩
  have HR11 := Lib.hid (HR10.out.later hb)
  have HC11 := Lib.hid (HC10.out.later hb)
  have HB11 := Lib.hid (HB10.out.trans (hb.mono HB10.out.size))
  have HY11 := Lib.hid (HY10.out.below (Nat.le_refl _) hb)
  have HT11 := Lib.hid (HT10.out.below HT10.out.pos hb)
  obtain ⟨r, hr⟩ := cx_against
  have hlen := agL_len 0 4 CL (4 * 2 - ([] : List Nat).length) ⟨CH, 2, []⟩
  rw [hr] at hown hlen
  have hlen8 : (39 :: 50 :: 49 :: r).length = 8 := hlen
  clear hr hlen
  rcases hown.2.2 with ⟨h1, h0⟩ | ⟨g, cap, cur, rfl, h4, h5, h6⟩
  · exact absurd h0 (by simp)
  have HO11 := Lib.hid hown
  clear hown h4 h5 h6
  clear hb HR10 HC10 HB10 HY10 HT10
  go_wp2_with (first
    | refine wpList_load_row rfl 27 (.tmp 1) rfl b1 rfl 27 PA (0, 0) _ HR11.out Tryd.underlying27 rfl (by rw [HZ.out.1]; exact size_pos) ?_
    | refine wpList_load_row rfl 44 (.tmp 3) rfl b3 rfl 44 #[.int .u8 0, .int .i64 2, .slice (some ⟨l, 0, none⟩) 3 3] (0, 0) _ HC11.out Tryd.underlying44 rfl size_cm ?_)
  refine (HNT.out w11 HT11.out).mono ?_
  rintro e w12 ⟨rfl, hb⟩
  have HR12 := Lib.hid (HR11.out.later hb)
  have HC12 := Lib.hid (HC11.out.later hb)
  have HB12 := Lib.hid (HB11.out.trans (hb.mono HB11.out.size))
  have HY12 := Lib.hid (HY11.out.below (Nat.le_refl _) hb)
  have HT12 := Lib.hid (HT11.out.below HT11.out.pos hb)
  have HO12 := Lib.hid (HO11.out.below hb)
  clear hb HR11 HC11 HB11 HY11 HT11
  have e0 := (ownU_at HO12.out (k := 0) (by simp)).1
  have e1 := (ownU_at HO12.out (k := 1) (by simp)).1
  have e2 := (ownU_at HO12.out (k := 2) (by simp)).1
  simp only [List.getD_cons_zero, List.getD_cons_succ] at e0 e1 e2
  go_wp2_with fail
  go_ret
  exact ⟨rfl, HB12.out⟩
end Go.Proofs.YtnbillhodbcfbaaDoor

/- A line in memory. -/
namespace Go.Proofs.YtnbillhodbcfbaaDoor
open Go.RowKit Go.Sort Go.Shelf Go.Maps Go.WideMaps

/-- a line in memory -/
def LnM (W : World) (v : Value) (ln : List Nat) : Prop := ∃ la cap, v = .slice la ln.length cap ∧ Byt W la ln.length ln ∧ ∀ b off, la = some ⟨b, off, none⟩ → b < W.heap.size
theorem LnM.below {W W' : World} {v : Value} {ln : List Nat} (h : LnM W v ln) (hb : Below W.heap.size W W') : LnM W' v ln := by
  obtain ⟨la, cap, e, h1, h2⟩ := h
  exact ⟨la, cap, e, h1.below (Nat.le_refl _) hb, fun b off e => Nat.lt_of_lt_of_le (h2 b off e) hb.size⟩
theorem LnM.of_own {W : World} {base : Nat} {v : Value} {ln : List Nat} (h : OwnU W base v ln) (hl : ln.length ≤ 140737488351232) (h52 : ∀ y ∈ ln, y < 52) : LnM W v ln := by
  obtain ⟨la, lcap, rfl, -, -, -, hbase, hby⟩ := h.byt hl (fun i => by
    rcases Nat.lt_or_ge i ln.length with h | h
    · have := h52 (ln.getD i 0) (by rw [List.getD_eq_getElem?_getD, List.getElem?_eq_getElem h]; exact List.getElem_mem h)
      omega
    · rw [List.getD_eq_getElem?_getD, List.getElem?_eq_none h]; exact (by decide : (0 : Nat) < 256))
  exact ⟨la, lcap, rfl, hby, fun b off e => (hbase _ e).2⟩
end Go.Proofs.YtnbillhodbcfbaaDoor

/- Plain: what a line chooses depends on the side's own cards alone; plays by a line. -/
namespace Go.Proofs.YtnbillhodbcfbaaDoor
open Go.RowKit Go.Sort Go.Shelf Go.Maps Go.WideMaps

variable {sd tr : Nat} {P : Nat → Bool} {t : Tb} {ln ln' : List Nat}
/-- all cards of a side have a property -/
def SideP (sd : Nat) (P : Nat → Bool) (t : Tb) : Prop := ∀ s c, s % 2 = sd → Own t s c → P c = true
theorem find_side (hP : SideP sd P t) (hs : t.turn % 2 = sd) (ln : List Nat) : ln.find? t.legal = (ln.filter P).find? t.legal := by
  rw [List.find?_filter]
  congr 1
  funext c
  cases hl : t.legal c with
  | false => simp
  | true => rw [hP t.turn c hs (own_hand t.turn_lt (legal_iff.1 hl).1)]; rfl
theorem find_same (hP : SideP sd P t) (hs : t.turn % 2 = sd) (hl : ln.filter P = ln'.filter P) : ln.find? t.legal = ln'.find? t.legal := by
  rw [find_side hP hs ln, find_side hP hs ln', hl]
theorem lineL_side (hP : SideP sd P t) (hs : t.turn % 2 = sd) (hl : ln.filter P = ln'.filter P) : lineL ln t = lineL ln' t := by
  unfold lineL; rw [find_same hP hs hl]
theorem lineC_side (hP : SideP sd P t) (hs : t.turn % 2 = sd) (hl : ln.filter P = ln'.filter P) : lineC ln t = lineC ln' t := by
  unfold lineC lineM; rw [find_same hP hs hl]
theorem SideP.put (hP : SideP sd P t) (hp : Pk t) {c : Nat} (hc : t.legal c = true) : SideP sd P (t.put tr c).1 := fun s x hs ho =>
  hP s x hs (own_putM (by have := (mem_cards.1 (cards_pk hp hc)).1; omega) hp.2 (legal_iff.1 hc).1 ho)
theorem mn_side (hl : ln.filter P = ln'.filter P) : ∀ (n : Nat) (t : Tb), Pk t → SideP sd P t → mn sd tr false ln n t = mn sd tr false ln' n t
  | 0, _, _, _ => rfl
  | n + 1, t, hp, hP => by
    rw [mn_succ, mn_succ]
    have e : mnL sd false ln t = mnL sd false ln' t := by
      unfold mnL
      split
      next h => exact lineL_side hP h.1 hl
      next => rfl
    rw [e]
    congr 1
    refine List.map_congr_left fun c hc => ?_
    have hlg := mnL_legal hc
    have hc52 := (mem_cards.1 (cards_pk hp hlg)).1
    unfold worthM
    rw [mn_side hl n _ (pk_put hp hc52) (hP.put hp hlg)]
theorem wsF_congr {g g' : Nat → Nat} {l : List Nat} (h : ∀ c ∈ l, g c = g' c) : wsF g l = wsF g' l := by
  refine snoc_ind (P := fun l => (∀ c ∈ l, g c = g' c) → wsF g l = wsF g' l) (fun _ => rfl) (fun l x ih h => ?_) l h
  rw [wsF_snoc, wsF_snoc, ih fun c hc => h c (List.mem_append_left _ hc), h x (List.mem_append_right _ (List.mem_singleton.2 rfl))]
theorem agC_side (hl : ln.filter P = ln'.filter P) (n : Nat) (hp : Pk t) (hP : SideP sd P t) : agC sd tr ln n t = agC sd tr ln' n t := by
  unfold agC
  split
  next h => exact lineC_side hP h hl
  next h =>
    rw [wsF_congr fun c hc => ?_]
    have h2 := mem_cards.1 hc
    unfold worthM
    rw [mn_side hl n _ (pk_put hp h2.1) (hP.put hp h2.2)]
theorem worthM_le {q m : Nat} (hg : TbG q t) (hm : m + 1 + t.cs.length = 4 * q) {c : Nat} (hc : t.legal c = true) (ln : List Nat) : worthM sd tr false ln m t c ≤ q + 1 := by
  obtain ⟨q', hg', hq', hm'⟩ := hg.put tr hc hm
  have h1 := mn_le (sd := sd) (tr := tr) (line := ln) (fr := false) m q' _ hg'.ok.pk hg'.ev hm'
  have h2 := (wonS_le sd tr t c).1
  unfold worthM
  omega
theorem agC_legal {q m : Nat} (hg : TbG q t) (hm : m + 1 + t.cs.length = 4 * q) (hq : q ≤ 4) (ln : List Nat) : t.legal (agC sd tr ln m t) = true := by
  have h0 := hg.can (by omega)
  unfold agC
  split
  · exact lineC_mem hg.ok h0 ln
  · have hne : t.cards ≠ [] := cards_some hg.ok hg.ev (by omega)
    refine (mem_cards.1 (wsF_mem hne fun c hc => ?_)).2
    have := worthM_le (sd := sd) (tr := tr) hg hm (mem_cards.1 hc).2 ln
    omega
theorem agL_side (hl : ln.filter P = ln'.filter P) : ∀ (n q : Nat) (t : Tb), TbG q t → n + t.cs.length = 4 * q → q ≤ 4 → SideP sd P t → agL sd tr ln n t = agL sd tr ln' n t
  | 0, _, _, _, _, _, _ => rfl
  | n + 1, q, t, hg, hm, hq, hP => by
    have hlg := agC_legal (sd := sd) (tr := tr) hg hm hq ln'
    obtain ⟨q', hg', hq', hm'⟩ := hg.put tr hlg hm
    show agC sd tr ln n t :: agL sd tr ln n (t.put tr (agC sd tr ln n t)).1 = agC sd tr ln' n t :: agL sd tr ln' n (t.put tr (agC sd tr ln' n t)).1
    rw [agC_side hl n hg.ok.pk hP, agL_side hl n q' _ hg' hm' (by omega) (hP.put hg.ok.pk hlg)]
/-- a line is right -/
theorem playOk_nodup (l : List Nat) : playOk (fun _ => 0) l l.length = true ↔ (∀ y ∈ l, y < 52) ∧ l.Nodup := by
  have hg : ∀ i, i < l.length → l[i]? = some (l.getD i 0) := fun i hi => by rw [List.getD_eq_getElem?_getD, List.getElem?_eq_getElem hi]; rfl
  unfold List.Nodup
  rw [playOk_iff, List.pairwise_iff_getElem]
  constructor
  · rintro ⟨h1, -, h3⟩
    refine ⟨fun y hy => ?_, fun i j hi hj hij e => ?_⟩
    · obtain ⟨i, hi, rfl⟩ := List.mem_iff_getElem.1 hy
      have := h1 i hi
      rw [List.getD_eq_getElem?_getD, List.getElem?_eq_getElem hi] at this
      exact this
    · refine h3 i j hij hj ?_
      rw [List.getD_eq_getElem?_getD, List.getD_eq_getElem?_getD, List.getElem?_eq_getElem hi, List.getElem?_eq_getElem hj]
      exact e
  · rintro ⟨h1, h2⟩
    refine ⟨fun i hi => h1 _ (List.mem_of_getElem? (hg i hi)), fun i s _ _ => Nat.zero_testBit _, fun i j hij hj e => ?_⟩
    refine h2 i j (by omega) hj hij ?_
    rw [List.getD_eq_getElem?_getD, List.getD_eq_getElem?_getD, List.getElem?_eq_getElem hj, List.getElem?_eq_getElem (show i < l.length by omega)] at e
    exact e
theorem claim_ok {l : List Nat} (h52 : ∀ y ∈ l, y < 52) (hn : l.Nodup) (h24 : l.length ≤ 24) {sd : Nat} (hs : sd < 2) (q : Nat) : claimB sd 0 l q = true := by
  unfold claimB
  rw [(playOk_nodup l).2 ⟨h52, hn⟩]
  simp
  omega
/-- a line with the other cards put before it, and after it -/
def longL (P : Nat → Bool) (l : List Nat) : List Nat := (l.filter fun c => !P c).take ((l.filter fun c => !P c).length / 2) ++ l.filter P ++ (l.filter fun c => !P c).drop ((l.filter fun c => !P c).length / 2)
theorem long_perm (P : Nat → Bool) (l : List Nat) : (longL P l).Perm l := by
  unfold longL
  generalize hm : (l.filter fun c => !P c).length / 2 = m
  have h1 : (List.filter P l ++ List.filter (fun c => !P c) l).Perm l := List.filter_append_perm P l
  refine List.Perm.trans ?_ h1
  have h2 := List.take_append_drop m (l.filter fun c => !P c)
  refine List.Perm.trans (List.Perm.append_right _ List.perm_append_comm) ?_
  rw [List.append_assoc, h2]
theorem long_filter (P : Nat → Bool) (l : List Nat) : (longL P l).filter P = (l.filter P).filter P := by
  have h0 : ∀ x ∈ l.filter (fun c => !P c), P x = false := fun x hx => by simpa using (List.mem_filter.1 hx).2
  unfold longL
  rw [List.filter_append, List.filter_append]
  have e1 : ((l.filter fun c => !P c).take ((l.filter fun c => !P c).length / 2)).filter P = [] := List.filter_eq_nil_iff.2 fun x hx => by rw [h0 x (List.mem_of_mem_take hx)]; simp
  have e2 : ((l.filter fun c => !P c).drop ((l.filter fun c => !P c).length / 2)).filter P = [] := List.filter_eq_nil_iff.2 fun x hx => by rw [h0 x (List.mem_of_mem_drop hx)]; simp
  rw [e1, e2, List.nil_append, List.append_nil]
end Go.Proofs.YtnbillhodbcfbaaDoor

/- Plays card by card: plain, and finesselaw16.tricks. -/
namespace Go.Proofs.YtnbillhodbcfbaaDoor
open Go.RowKit Go.Sort Go.Shelf Go.Maps Go.WideMaps

/-- cards that can be played one after another -/
def Plays (tr : Nat) : List Nat → Tb → Prop
  | [], _ => True
  | c :: l, t => t.legal c = true ∧ Plays tr l (t.put tr c).1
/-- tricks of a side in a play -/
def trk (sd tr : Nat) : List Nat → Tb → Nat
  | [], _ => 0
  | c :: l, t => wonS sd tr t c + trk sd tr l (t.put tr c).1
/-- a play by the line of a side -/
def ByL (sd tr : Nat) (ln : List Nat) : List Nat → Tb → Prop
  | [], _ => True
  | c :: l, t => t.legal c = true ∧ (t.turn % 2 = sd → c = lineC ln t) ∧ ByL sd tr ln l (t.put tr c).1
variable {sd tr : Nat} {ln : List Nat}
theorem ByL.plays : ∀ {l : List Nat} {t : Tb}, ByL sd tr ln l t → Plays tr l t
  | [], _, _ => trivial
  | _ :: _, _, ⟨h, _, k⟩ => ⟨h, k.plays⟩
theorem wsF_val {g : Nat → Nat} {l : List Nat} : (wsF g l = (0, 7) ∧ ∀ c ∈ l, 7 ≤ g c) ∨ ((wsF g l).1 ∈ l ∧ (wsF g l).2 = g (wsF g l).1 ∧ ∀ c ∈ l, (wsF g l).2 ≤ g c) := by
  refine snoc_ind (P := fun l => (wsF g l = (0, 7) ∧ ∀ c ∈ l, 7 ≤ g c) ∨ ((wsF g l).1 ∈ l ∧ (wsF g l).2 = g (wsF g l).1 ∧ ∀ c ∈ l, (wsF g l).2 ≤ g c)) (.inl ⟨rfl, fun c h => by cases h⟩) (fun l x ih => ?_) l
  rw [wsF_snoc]
  split
  · rename_i hx
    refine .inr ⟨List.mem_append_right _ (List.mem_singleton.2 rfl), rfl, fun c hc => ?_⟩
    rcases List.mem_append.1 hc with h | h
    · rcases ih with ⟨h1, h2⟩ | ⟨_, _, h3⟩
      · have := h2 c h; rw [h1] at hx; dsimp only at hx ⊢; omega
      · have := h3 c h; dsimp only; omega
    · rcases List.mem_singleton.1 h with rfl; exact Nat.le_refl _
  · rename_i hx
    rcases ih with ⟨h1, h2⟩ | ⟨h1, h2, h3⟩
    · refine .inl ⟨h1, fun c hc => ?_⟩
      rcases List.mem_append.1 hc with h | h
      · exact h2 c h
      · rcases List.mem_singleton.1 h with rfl; rw [h1] at hx; dsimp only at hx; omega
    · refine .inr ⟨List.mem_append_left _ h1, h2, fun c hc => ?_⟩
      rcases List.mem_append.1 hc with h | h
      · exact h3 c h
      · rcases List.mem_singleton.1 h with rfl; omega
theorem wsF_best {g : Nat → Nat} {l : List Nat} (hl : l ≠ []) (hg : ∀ c ∈ l, g c < 7) : bestL false (l.map g) = g (wsF g l).1 := by
  rcases wsF_val (g := g) (l := l) with ⟨_, h2⟩ | ⟨h1, h2, h3⟩
  · obtain ⟨c, hc⟩ := List.exists_mem_of_ne_nil l hl
    have := h2 c hc
    have := hg c hc
    omega
  · refine bestL_eq (List.mem_map.2 ⟨_, h1, rfl⟩) fun x hx => ?_
    obtain ⟨c, hc, rfl⟩ := List.mem_map.1 hx
    show g (wsF g l).1 ≤ g c
    rw [← h2]
    exact h3 c hc
/-- what Against plays can be played, and makes just as many -/
theorem agL_ok (ln : List Nat) : ∀ (n q : Nat) (t : Tb), TbG q t → n + t.cs.length = 4 * q → q ≤ 4 → Plays tr (agL sd tr ln n t) t ∧ trk sd tr (agL sd tr ln n t) t = mn sd tr false ln n t
  | 0, _, _, _, _, _ => ⟨trivial, rfl⟩
  | n + 1, q, t, hg, hm, hq => by
    have hlg := agC_legal (sd := sd) (tr := tr) hg hm hq ln
    obtain ⟨q', hg', hq', hm'⟩ := hg.put tr hlg hm
    obtain ⟨h1, h2⟩ := agL_ok ln n q' _ hg' hm' (by omega)
    refine ⟨⟨hlg, h1⟩, ?_⟩
    show wonS sd tr t (agC sd tr ln n t) + trk sd tr (agL sd tr ln n (t.put tr (agC sd tr ln n t)).1) (t.put tr (agC sd tr ln n t)).1 = _
    rw [h2, mn_succ]
    have hne := cards_some hg.ok hg.ev (show 0 < q by omega)
    have h0 := hg.can (show 0 < q by omega)
    unfold mnL agC
    by_cases hs : t.turn % 2 = sd
    · rw [if_pos hs, if_pos ⟨hs, rfl⟩, (lineM_one hg.ok h0 ln).2]
      rfl
    · rw [if_neg hs, if_neg (fun h => hs h.1), wsF_best hne fun c hc => by
        have := worthM_le (sd := sd) (tr := tr) hg hm (mem_cards.1 hc).2 ln
        omega]
      rfl
/-- a play by the line makes at least as many -/
theorem byL_le (ln : List Nat) : ∀ (n q : Nat) (t : Tb) (l : List Nat), TbG q t → n + t.cs.length = 4 * q → l.length = n → ByL sd tr ln l t → mn sd tr false ln n t ≤ trk sd tr l t
  | 0, _, _, l, _, _, hl, _ => Nat.zero_le _
  | n + 1, q, t, [], _, _, hl, _ => by cases hl
  | n + 1, q, t, c :: l, hg, hm, hl, ⟨h1, h2, h3⟩ => by
    obtain ⟨q', hg', hq', hm'⟩ := hg.put tr h1 hm
    have ih := byL_le ln n q' _ l hg' hm' (by simpa using hl) h3
    have hc : c ∈ mnL sd false ln t := by
      unfold mnL
      split
      next h => rw [(lineM_one hg.ok (hg.can (by omega)) ln).2, h2 h.1]; exact List.mem_singleton.2 rfl
      next => exact cards_pk hg.ok.pk h1
    have := minL_le (List.mem_map_of_mem (f := worthM sd tr false ln n t) hc)
    rw [← mn_succ] at this
    show _ ≤ wonS sd tr t c + trk sd tr l (t.put tr c).1
    have e : worthM sd tr false ln n t c = wonS sd tr t c + mn sd tr false ln n (t.put tr c).1 := rfl
    omega
theorem PosT.tg {q : Nat} {t : Tb} (h : PosT q t) : TbG q t := ⟨h.ok, h.uniq, h.evn⟩
/-- the numbers of a card -/
theorem wonS_put {t : Tb} {c : Nat} (hsd : sd < 2) (hl : t.cs.length < 4) : (t.put tr c).2 ≤ 1 ∧ ((t.cs.length = 3 ∧ (t.put tr c).1.cs = [] ∧ ((sd = 0 ∧ wonS sd tr t c = (t.put tr c).2) ∨ (sd = 1 ∧ wonS sd tr t c = 1 - (t.put tr c).2))) ∨ (t.cs.length < 3 ∧ (t.put tr c).1.cs ≠ [] ∧ wonS sd tr t c = 0)) := by
  have hp : (t.push c).cs.length = t.cs.length + 1 := by show (t.cs ++ [c]).length = _; simp
  unfold Tb.put Tb.settle wonS
  by_cases h3 : t.cs.length < 3
  · rw [if_pos (by omega), if_pos h3]
    exact ⟨Nat.zero_le _, .inr ⟨h3, (fun e => by have h0 : (t.push c).cs = [] := e; rw [h0] at hp; simp at hp), rfl⟩⟩
  · rw [if_neg (by omega), if_neg h3]
    refine ⟨Nat.sub_le _ _, .inl ⟨by omega, rfl, ?_⟩⟩
    have hm := Nat.mod_two_eq_zero_or_one ((t.push c).win tr)
    rcases (show sd = 0 ∨ sd = 1 by omega) with rfl | rfl
    · refine .inl ⟨rfl, ?_⟩
      rcases hm with h | h <;> simp [h]
    · refine .inr ⟨rfl, ?_⟩
      rcases hm with h | h <;> simp [h]
theorem pos_zero {t : Tb} (H : PosT 0 t) : t.cs = [] ∧ ∀ s, s < 4 → t.h s = 0 := by
  have h4 : t.cs = [] := by
    have := H.some
    apply List.length_eq_zero_iff.1
    omega
  refine ⟨h4, fun s hs => ?_⟩
  have h5 := H.evn ((s + 4 - t.ld) % 4) (Nat.mod_lt _ (by decide))
  have h6 := H.ok.ld
  rw [h4, if_neg (by simp), show (t.ld + (s + 4 - t.ld) % 4) % 4 = s by omega] at h5
  apply Nat.eq_of_testBit_eq
  intro c
  rw [Nat.zero_testBit]
  cases hb : (t.h s).testBit c
  · rfl
  · have h7 := (mem_bits (H.ok.w64 s) (c := c)).2 hb
    rw [Nat.add_zero, pop_len] at h5
    rw [List.length_eq_zero_iff.1 h5] at h7
    cases h7
theorem OwnU.playedX {w : World} {base : Nat} {v : Value} {t : Tb} (h : OwnU w base v t.cs) (hk : TbOk t) : ∃ a cap, v = .slice a t.cs.length cap ∧ Byt w a t.cs.length t.cs := by
  obtain ⟨a, cap, e, -, -, -, -, hb⟩ := h.byt (by have := hk.pk.2; omega) fun i => by have := hk.getD i; omega
  exact ⟨a, cap, e, hb⟩
theorem grownBy_rowY (W : World) (g : Nat) (cs : Array Value) : W.grownBy (W.setRow g cs) (some g) :=
  ⟨rfl, rfl, rfl, Nat.le_of_eq (size_setRow _ _ _).symm, fun k _ hne => setRow_other _ _ _ _ fun e => hne (by rw [e])⟩
theorem deal_eq0X (W : World) : (Op.equalIn 10000 24 (.agg #[.int .u64 0, .int .u64 0, .int .u64 0, .int .u64 0]) (.agg #[.int .u64 0, .int .u64 0, .int .u64 0, .int .u64 0])).run Tryd.prog W = .ok true W := by kernel_rfl
theorem posA_one (h : Nat → Nat) (tr ld : Nat) (a : Option Addr) (n c : Nat) : (posA h tr ld (.slice a n c)).size = 7 ∧ (posA h tr ld (.slice a n c)).all (·.oneCell') = true := ⟨rfl, by simp [posA, Value.oneCell']⟩
/-- between the rounds of tricks -/
structure TK (sd tr b3 : Nat) (play : List Nat) (V j won : Nat) (w W : World) : Prop where
  ex : ∃ (t : Tb) (q : Nat) (a : Option Addr) (c : Nat), Row W b3 27 (posA t.h tr t.ld (.slice a t.cs.length c)) ∧ Byt W a t.cs.length t.cs ∧ PosT q t ∧ (play.length - j) + t.cs.length = 4 * q ∧ q ≤ 4 ∧ Plays tr (play.drop j) t ∧ won + trk sd tr (play.drop j) t = V
  wj : won ≤ j
  below : Below w.heap.size w W
set_option maxHeartbeats 2000000 in
set_option maxRecDepth 10000 in
theorem law16_tricks (h : Nat → Nat) (tr ld : Nat) (ps : List Nat) (a : Option Addr) (cap sd q : Nat) (a2 : Option Addr) (len2 cap2 : Nat) (play : List Nat) (w : World) (hP : PosT q ⟨h, ld, ps⟩) (htr : tr ≤ 4) (hsd : sd < 2) (hq : q ≤ 4) (hz : Byt w a ps.length ps) (hz2 : Byt w a2 len2 play) (hpl : Plays tr play ⟨h, ld, ps⟩) (hlen : play.length + ps.length = 4 * q) :
    Calls Tryd.prog 21 #[.agg (posA h tr ld (.slice a ps.length cap)), .slice a2 len2 cap2, .int .u8 (sd : Int)] w fun e w' => e = .returned (.int .i64 (trk sd tr play ⟨h, ld, ps⟩ : Int)) ∧ Below w.heap.size w w' := by
  have HZ := Lib.hid hz
  have HY := Lib.hid hz2
  have HL2 := Lib.hid hz2.length
  have HTR := Lib.hid htr
  have HSD := Lib.hid hsd
  have hl16 : len2 ≤ 16 := by have := hz2.length; omega
  obtain ⟨V, hV⟩ : ∃ V, trk sd tr play ⟨h, ld, ps⟩ = V := ⟨_, rfl⟩
  have HX := Lib.hid (And.intro hP (And.intro hq (And.intro hpl (And.intro hlen hV))))
  rw [hV]
  obtain ⟨PA, hPA⟩ : ∃ A, posA h tr ld (.slice a ps.length cap) = A := ⟨_, rfl⟩
  have HPA := Lib.hid hPA
  rw [hPA]
  have HR := Lib.hid (Row.new w 27 PA)
  have HB := Lib.hid ((Below.refl w.heap.size w).alloc (Nat.le_refl _) (.cells PA 27))
  clear hz hz2 hP hq hpl hlen hV hPA htr hsd
  go_enter Tryd.func21, Tryd.ntmps21
  go_upto_region 1 with fail
  generalize w.alloc (.cells PA 27) = wa at *
  obtain ⟨b3, hb3⟩ : ∃ b, w.heap.size = b := ⟨_, rfl⟩
  have HB3 := Lib.hid hb3
  rw [hb3] at HR ⊢
  clear hb3
  go_upto_region 3 with fail
  try dsimp only [Act.put]
  go_loopg [7, 15] len2 (fun g nv iv wr => ∃ (j won : Nat), g = len2 - j ∧ j ≤ len2 ∧ iv = .int .i64 (j : Int) ∧ nv = .int .i64 (won : Int) ∧ TK sd tr b3 play V j won w wr)
  case atStart =>
    exact ⟨0, 0, rfl, by omega, rfl, rfl, ⟨⟨_, q, a, cap, by rw [HPA.out]; exact HR.out, HZ.out.below (Nat.le_refl _) HB.out, HX.out.1, by have := HX.out.2.2.2.1; simpa using this, HX.out.2.1, HX.out.2.2.1, by rw [Nat.zero_add]; exact HX.out.2.2.2.2⟩, Nat.le_refl _, HB.out⟩⟩
  case round =>
    clear HR HB
    obtain ⟨j, won, rfl, hj, rfl, rfl, hK⟩ := hrel
    have HK := Lib.hid hK
    have hwj := hK.wj
    obtain ⟨t, q1, va, vc, hrow, hby, hpos, hm, hq4, hpl, hsum⟩ := hK.ex
    clear hK
    have HW := Lib.hid HK.out.below
    by_cases hlt : j < len2
    · have hdk : decide (j < len2) = true := by simp; omega
      have hl := HL2.out
      obtain ⟨c, hc⟩ : ∃ c, play.getD j 0 = c := ⟨_, rfl⟩
      have hdr : play.drop j = c :: play.drop (j + 1) := by
        rw [List.drop_eq_getElem_cons (by omega), ← hc, List.getD_eq_getElem?_getD, List.getElem?_eq_getElem (by omega)]; rfl
      rw [hdr] at hpl hsum
      obtain ⟨hleg, hpl'⟩ := hpl
      have hcm := cards_pk hpos.ok.pk hleg
      obtain ⟨q2, hp2, hq2, hw2, hk2⟩ := hpos.put tr hcm
      have hkk := hk2 (play.length - (j + 1)) (by omega)
      obtain ⟨-, hws⟩ := wonS_put (sd := sd) (tr := tr) (t := t) (c := c) HSD.out hpos.ok.pk.2
      have hright := hpos.right (tr := tr) HTR.out
      have HPL := Lib.hid (fun W hz => dm_Play_ok t.h tr t.ld t.cs va vc c hpos.ok.w64 (by have := HTR.out; omega) (by have := hpos.ok.ld; omega) W hz hright hleg)
      have hte : Tb.mk t.h t.ld t.cs = t := rfl
      rw [hte] at HPL
      have hsum' : won + wonS sd tr t c + trk sd tr (play.drop (j + 1)) (t.put tr c).1 = V := by rw [Nat.add_assoc]; exact hsum
      obtain ⟨u, hu⟩ : ∃ u, (t.put tr c).1 = u := ⟨_, rfl⟩
      obtain ⟨wk, hwk⟩ : ∃ x, (t.put tr c).2 = x := ⟨_, rfl⟩
      obtain ⟨ws, hwse⟩ : ∃ x, wonS sd tr t c = x := ⟨_, rfl⟩
      rw [hu, hwk] at HPL
      rw [hu] at hp2 hkk hpl' hsum'
      rw [hwk] at hw2
      rw [hu, hwk, hwse] at hws
      rw [hwse] at hsum'
      have HNX := Lib.hid (And.intro hp2 (And.intro (Nat.le_trans hq2 hq4) (And.intro hkk (And.intro hpl' hsum'))))
      have HZr := Lib.hid (HY.out.below (Nat.le_refl _) HW.out)
      obtain ⟨bb, off, hae, -, hcells⟩ := HZr.out.at (by omega)
      have ek := hcells j hlt
      rw [hc] at ek
      subst hae
      have HROW := Lib.hid hrow
      have HBY := Lib.hid hby
      obtain ⟨PQ, hPQ⟩ : ∃ A, posA t.h tr t.ld (.slice va t.cs.length vc) = A := ⟨_, rfl⟩
      have HPZ : Hid (PQ.size = 7) := Lib.hid (by rw [← hPQ]; rfl)
      rw [hPQ] at HROW HPL
      have HWS := Lib.hid hws
      have HWK := Lib.hid hw2
      clear hcells hPQ hp2 hq2 hw2 hk2 hkk hright hleg hcm hpl' hsum' hsum hu hwk hwse hdr hc hm hq4 hpos hrow hby hte hws hl
      go_upto_region 5 with fail
      go_wp2_with (refine wpList_load_row rfl 27 (.tmp 3) rfl b3 rfl 27 PQ (0, 0) _ HROW.out Tryd.underlying27 rfl (by rw [HPZ.out]; exact size_pos) ?_)
      refine (HPL.out _ HBY.out).mono ?_
      rintro e w5 ⟨v5, rfl, hov, hb5⟩
      obtain ⟨ua, uc, rfl, -⟩ := hov.playedX HNX.out.1.ok
      have HUZ := Lib.hid (posA_one u.h tr u.ld ua u.cs.length uc)
      have HU6 : Hid ((posA u.h tr u.ld (.slice ua u.cs.length uc))[6]? = some (.slice ua u.cs.length uc)) := Lib.hid rfl
      obtain ⟨QA, hQA⟩ : ∃ A, posA u.h tr u.ld (.slice ua u.cs.length uc) = A := ⟨_, rfl⟩
      have HQA := Lib.hid hQA
      rw [hQA] at HUZ HU6 ⊢
      have HN := Lib.hid (Row.new w5 27 zeroP)
      have ha := below_setRow ((Below.refl w5.heap.size w5).alloc (Nat.le_refl _) (.cells zeroP 27)) (Nat.le_refl _) QA
      have HQ6 := Lib.hid (show Row ((w5.alloc (.cells zeroP 27)).setRow w5.heap.size QA) w5.heap.size 27 QA from setRow_heap _ _ _ _ _ _ HN.out)
      have HR6 := Lib.hid ((HROW.out.later hb5).later ha)
      have HB6 := Lib.hid (HW.out.trans ((hb5.trans (ha.mono hb5.size)).mono HW.out.size))
      have HOV := Lib.hid (Owns.below hov ha)
      clear hov hb5 ha hQA ek HROW HBY
      go_upto_region 6 with (refine wpList_store_row rfl 27 (.tmp 10) (.tmp 23) rfl w5.heap.size QA rfl rfl 27 _ HN.out (by rw [HUZ.out.1]; exact size_pos) (by rw [HUZ.out.1]; rfl) HUZ.out.2 ?_)
      generalize (w5.alloc (.cells zeroP 27)).setRow w5.heap.size QA = w6 at *
      obtain ⟨b10, hb10⟩ : ∃ b, w5.heap.size = b := ⟨_, rfl⟩
      rw [hb10] at HQ6 ⊢
      clear hb10 HN HPL
      have c6 : w6.cell? ⟨b10, 6, none⟩ = some (.slice ua u.cs.length uc) := (HQ6.out.cell 6).trans HU6.out
      obtain ⟨ul, hul⟩ : ∃ z, u.cs.length = z := ⟨_, rfl⟩
      rw [hul] at c6
      have HUL := Lib.hid hul
      clear hul
      have hj16 : j < 16 := by omega
      have hs0 := HSD.out
      have HFIN : Hid (TK sd tr b3 play V (j + 1) (won + ws) w (w6.setRow b3 QA)) := Lib.hid ⟨⟨u, q2, ua, uc, by rw [HQA.out]; exact setRow_heap _ _ _ _ _ _ HR6.out, (by
        have h1 := Owns.kept HOV.out (grownBy_rowY w6 b3 QA) (.inl (own_apart HOV.out HR6.out (by decide)))
        obtain ⟨a', c', e, h2⟩ := OwnU.playedX h1 HNX.out.1.ok
        injection e with e1 e2 e3
        rw [e1]; exact h2), HNX.out.1, HNX.out.2.2.1, HNX.out.2.1, HNX.out.2.2.2.1, HNX.out.2.2.2.2⟩, (by
        rcases HWS.out with ⟨_, _, ⟨_, h⟩ | ⟨_, h⟩⟩ | ⟨_, _, h⟩
        · have := HWK.out; omega
        · omega
        · omega), below_setRow HB6.out (by rw [← HB3.out]; exact Nat.le_refl _) _⟩
      have hwk := HWK.out
      rcases HWS.out with ⟨_, hc0, ⟨hsd0, hw⟩ | ⟨hsd0, hw⟩⟩ | ⟨_, hc0, hw⟩
      · have hul0 : ul = 0 := by rw [← HUL.out, hc0]; rfl
        subst hsd0 hul0
        rw [hw] at HFIN
        clear hw HWS HNX HUL
        rcases (show wk = 0 ∨ wk = 1 by omega) with rfl | rfl
        all_goals
          go_wp2_with (first
            | refine wpList_load_row rfl 27 (.tmp 10) rfl b10 rfl 27 QA (0, 0) _ HQ6.out Tryd.underlying27 rfl (by rw [HUZ.out.1]; exact size_pos) ?_
            | refine wpList_store_row rfl 27 (.tmp 3) (.tmp 45) rfl b3 QA rfl rfl 27 _ HR6.out (by rw [HUZ.out.1]; exact size_pos) (by rw [HUZ.out.1, HPZ.out]) HUZ.out.2 ?_)
          go_roundg (len2 - (j + 1))
          case measure => omega
          case rel => exact ⟨j + 1, _, rfl, by omega, by go_num, by go_num, HFIN.out⟩
      · have hul0 : ul = 0 := by rw [← HUL.out, hc0]; rfl
        subst hsd0 hul0
        rw [hw] at HFIN
        clear hw HWS HNX HUL
        rcases (show wk = 0 ∨ wk = 1 by omega) with rfl | rfl
        all_goals
          go_wp2_with (first
            | refine wpList_load_row rfl 27 (.tmp 10) rfl b10 rfl 27 QA (0, 0) _ HQ6.out Tryd.underlying27 rfl (by rw [HUZ.out.1]; exact size_pos) ?_
            | refine wpList_store_row rfl 27 (.tmp 3) (.tmp 45) rfl b3 QA rfl rfl 27 _ HR6.out (by rw [HUZ.out.1]; exact size_pos) (by rw [HUZ.out.1, HPZ.out]) HUZ.out.2 ?_)
          go_roundg (len2 - (j + 1))
          case measure => omega
          case rel => exact ⟨j + 1, _, rfl, by omega, by go_num, by go_num, HFIN.out⟩
      · have hul0 : ul ≠ 0 := fun e => hc0 (List.length_eq_zero_iff.1 (by rw [HUL.out, e]))
        have hulb : ((ul : Int) == 0) = false := by rw [beq_eq_false_iff_ne]; omega
        rw [hw, Nat.add_zero] at HFIN
        clear hw HWS HNX HUL hc0
        go_wp2_with (first
            | refine wpList_load_row rfl 27 (.tmp 10) rfl b10 rfl 27 QA (0, 0) _ HQ6.out Tryd.underlying27 rfl (by rw [HUZ.out.1]; exact size_pos) ?_
            | refine wpList_store_row rfl 27 (.tmp 3) (.tmp 45) rfl b3 QA rfl rfl 27 _ HR6.out (by rw [HUZ.out.1]; exact size_pos) (by rw [HUZ.out.1, HPZ.out]) HUZ.out.2 ?_)
        go_roundg (len2 - (j + 1))
        case measure => omega
        case rel => exact ⟨j + 1, _, rfl, by omega, by go_num, rfl, HFIN.out⟩
    · obtain rfl : j = len2 := by omega
      have hdk : decide (j < j) = false := by simp
      obtain rfl : q1 = 0 := by
        have h1 := hpos.ok.pk.2
        have h2 := HL2.out
        omega
      have hdr : play.drop j = [] := List.drop_eq_nil_of_le (by rw [HL2.out]; exact Nat.le_refl _)
      rw [hdr] at hsum
      have hwv : won = V := by rw [← hsum]; exact (Nat.add_zero _).symm
      subst hwv
      obtain ⟨-, hz0⟩ := pos_zero hpos
      have e0 := hz0 0 (by decide)
      have e1 := hz0 1 (by decide)
      have e2 := hz0 2 (by decide)
      have e3 := hz0 3 (by decide)
      unfold posA at hrow
      rw [e0, e1, e2, e3] at hrow
      have c0 := hrow.cell 0
      have c1 := hrow.cell 1
      have c2 := hrow.cell 2
      have c3 := hrow.cell 3
      simp only [List.getElem?_toArray, List.getElem?_cons_zero, List.getElem?_cons_succ, show ((0 : Nat) : Int) = 0 from rfl] at c0 c1 c2 c3
      clear e0 e1 e2 e3 hrow hz0 hsum hdr hpl hpos hby hm hq4 HX hlt
      have heq := fun W => deal_eq0X W
      go_wp2_with fail
      go_ret
      exact ⟨rfl, HW.out⟩
end Go.Proofs.YtnbillhodbcfbaaDoor

/- Own slices of bytes: two of them side by side, parts of them, appends. -/
namespace Go.Proofs.YtnbillhodbcfbaaDoor
open Go.RowKit Go.Sort Go.Shelf Go.Maps Go.WideMaps

theorem src_emptyX {P : Program} {size : Nat} {t e : TypeId} (ht : P.underlying t = some (.slice e)) (a : Option Addr) (c : Nat) (w : World) : Src P size t (.slice a 0 c) 0 [] w := by
  cases a with
  | none => exact Src.ofNil w ht c
  | some a => exact Src.ofSlice w ht a 0 c [] (by simp) (fun j u h => by simp at h) (fun u h => by simp at h)
/-- a slice from a place on -/
theorem cut_runX (a : Option Addr) (k cap l : Nat) (zs : List Nat) (w : World) (hl : l ≤ k) (hkc : k ≤ cap) (hb : Byt w a k zs) :
    ∃ a', (∀ wx, (Instr.slice 25 (.slice a k cap) (some (.int .i64 (l : Int))) none none).run Tryd.prog wx = .ok (.slice a' (k - l) (cap - l)) wx) ∧ Byt w a' (k - l) (zs.drop l) ∧ (∀ ad, a' = some ad → ∃ ad0, a = some ad0 ∧ ad.block = ad0.block) := by
  have hsz : ∀ wx, (sizeOf (Tryd.prog.elem 25)).run Tryd.prog wx = .ok 1 wx := by intro wx; kernel_rfl
  refine ⟨if cap = l then a else a.map (·.add (l * 1)), fun wx => ?_, ?_, ?_⟩
  · rw [run_slice_l wx 25 a k cap (by kernel_rfl) _ _ (by omega) (by omega), hsz]
    simp [Result.andThen, sliced]
  · refine ⟨by rw [List.length_drop, hb.length], by have := hb.small; omega, fun i => ?_, ?_⟩
    · have := hb.byte (l + i)
      rw [List.getD_eq_getElem?_getD] at this ⊢
      rwa [List.getElem?_drop]
    · rcases Nat.lt_or_ge l k with hlt | hge
      · right
        obtain ⟨b, off, rfl, hbs, hcs⟩ := hb.at (by omega)
        rw [if_neg (by omega : ¬ cap = l)]
        refine ⟨b, off + l, by simp [Addr.add], hbs, fun i hi => ?_⟩
        have := hcs (l + i) (by omega)
        rw [List.getD_eq_getElem?_getD] at this ⊢
        rw [List.getElem?_drop, Nat.add_assoc]
        exact this
      · left; omega
  · intro ad he
    cases a with
    | none => split at he <;> simp at he
    | some ad0 =>
      refine ⟨ad0, rfl, ?_⟩
      split at he
      · injection he with e; rw [e]
      · simp at he; rw [← he]; simp only [Addr.add]; split <;> rfl
/-- a slice up to a place -/
theorem upto_runX (a : Option Addr) (k cap l : Nat) (zs : List Nat) (w : World) (hl : l ≤ k) (hkc : k ≤ cap) (ha : a = none → cap = 0) (hb : Byt w a k zs) :
    (∀ wx, (Instr.slice 25 (.slice a k cap) none (some (.int .i64 (l : Int))) none).run Tryd.prog wx = .ok (.slice a l cap) wx) ∧ Byt w a l (zs.take l) := by
  have hsz : ∀ wx, (sizeOf (Tryd.prog.elem 25)).run Tryd.prog wx = .ok 1 wx := by intro wx; kernel_rfl
  refine ⟨fun wx => ?_, by rw [List.length_take, hb.length]; omega, by have := hb.small; omega, fun i => ?_, ?_⟩
  · rw [run_slice_h wx 25 a k cap (by kernel_rfl) _ _ (by omega) (by omega), hsz]
    cases a with
    | none => simp [Result.andThen, sliced]
    | some ad => simp [Result.andThen, sliced, Addr.add]
  · have := hb.byte i
    rw [List.getD_eq_getElem?_getD] at this ⊢
    rw [List.getElem?_take]
    split
    · exact this
    · exact (by decide : (0 : Nat) < 256)
  · rcases Nat.eq_zero_or_pos l with h | h
    · exact .inl h
    · obtain ⟨b, off, rfl, hbs, hcs⟩ := hb.at (by omega)
      refine .inr ⟨b, off, rfl, hbs, fun i hi => ?_⟩
      have := hcs i (by omega)
      rw [List.getD_eq_getElem?_getD] at this ⊢
      rw [List.getElem?_take, if_pos hi]
      exact this
/-- blocks apart -/
def Apt (u v : Value) : Prop := ∀ g, u.ownBlock = some g → v.ownBlock ≠ some g
theorem Apt.symm {u v : Value} (h : Apt u v) : Apt v u := fun g hv hu => h g hu hv
theorem Apt.row {u v : Value} (h : Apt u v) : u.ownBlock ≠ v.ownBlock ∨ u.ownBlock = none := by
  cases hu : u.ownBlock with
  | none => exact .inr rfl
  | some g => exact .inl fun e => h g hu e.symm
theorem OwnU.ltB {w : World} {base : Nat} {v : Value} {l : List Nat} (h : OwnU w base v l) : ∀ g, v.ownBlock = some g → base ≤ g ∧ g < w.heap.size := fun g hg => World.ownsRow.lt h.2 g hg
theorem Apt.app {u u' v : Value} {w : World} {base : Nat} {l : List Nat} (h : Apt u v) (hv : OwnU w base v l) (hu : u'.ownBlock = u.ownBlock ∨ u'.ownBlock = some w.heap.size) : Apt u' v := by
  rcases hu with e | e
  · intro g hg; rw [e] at hg; exact h g hg
  · intro g hg hv2
    rw [e] at hg
    injection hg with hg
    subst hg
    have := (hv.ltB _ hv2).2
    omega
theorem grown_below {w w' : World} {base : Nat} {v : Value} {l : List Nat} (h : OwnU w base v l) (hg : w.grownBy w' v.ownBlock) (hb : base ≤ w.heap.size) : Below base w w' :=
  (Below.refl base w).grown hg hb (fun k hk => (h.ltB k hk).1)
/-- append(v, src...), v the call's own, src any slice of bytes, as an operation -/
theorem ok_appX {o : Oper} {ρ : Operand → Value} {w : World} {R : Value → World → Prop} (s x : Operand)
    (ho : o.op = .call { callee := .builtin .append, args := #[s, x], argTypes := #[25, 25] })
    (base : Nat) (v : Value) (zs ys : List Nat) (hs : ρ s = v) (hown : OwnU w base v zs) (ad : Option Addr) (m c : Nat) (hx : ρ x = .slice ad m c) (hy : Byt w ad m ys)
    (hbytes : zs.length + m ≤ 140737488355328) (hbase : base ≤ w.heap.size)
    (h : ∀ v' w', OwnU w' base v' (zs ++ ys) → w.grownBy w' v.ownBlock → (v'.ownBlock = v.ownBlock ∨ v'.ownBlock = some w.heap.size) → R v' w') : OpOk Tryd.prog o ρ w R := by
  by_cases hm : m = 0
  · subst hm
    obtain rfl : ys = [] := List.eq_nil_of_length_eq_zero hy.length
    obtain ⟨i0, hi, hz0, hz1, hz2⟩ := info_parts info_u8'
    rcases hown.form with ⟨rfl, rfl⟩ | ⟨g, cap, rfl, h1, h2, h3, h4⟩
    · have hr := run_append_nothing (P := Tryd.prog) w 25 25 o.type 5 i0 Tryd.underlying25 hi none 0 0 (Nat.le_refl _) (.slice ad 0 c) (src_emptyX Tryd.underlying25 ad c w)
      refine ok_value (v := .slice none 0 0) (w' := w) ?_ (h _ w (by rw [List.append_nil]; exact hown) ⟨rfl, rfl, rfl, Nat.le_refl _, fun _ _ _ => rfl⟩ (.inl rfl))
      unfold execOp
      simp only [ho, resolve, invoke, builtin, Sem.run_bind, Sem.run_pure, Result.andThen_ok, List.map_toArray, List.map_cons, List.map_nil, hs, hx, hr]
    · have hr := run_append_nothing (P := Tryd.prog) w 25 25 o.type 5 i0 Tryd.underlying25 hi (some ⟨g, 0, none⟩) zs.length cap h3 (.slice ad 0 c) (src_emptyX Tryd.underlying25 ad c w)
      refine ok_value (v := .slice (some ⟨g, 0, none⟩) zs.length cap) (w' := w) ?_ (h _ w (by rw [List.append_nil]; exact hown) ⟨rfl, rfl, rfl, Nat.le_refl _, fun _ _ _ => rfl⟩ (.inl rfl))
      unfold execOp
      simp only [ho, resolve, invoke, builtin, Sem.run_bind, Sem.run_pure, Result.andThen_ok, List.map_toArray, List.map_cons, List.map_nil, hs, hx, hr]
  · obtain ⟨b, off, rfl, -, -⟩ := hy.at (by omega)
    obtain ⟨i0, hi, hz0, hz1, hz2⟩ := info_parts info_u8'
    have hl := hy.length
    obtain ⟨v', w', hr, h1, h3, h5, h4⟩ := run_append_own_at (P := Tryd.prog) (w := w) base 25 o.type 5 i0 (.int .u8 0) 1 1 Tryd.underlying25 hi hz0 hz1 hz2 rfl (by decide) v zs.length (zs.flatMap encU) hown.2 ⟨b, off, none⟩ m c (ys.flatMap encU) (by rw [flatU_len]; omega) (byt_row hy ⟨b, off, none⟩ rfl) (flatU_one ys) (by unfold maxLen; omega) (by omega) hbase
    refine ok_value (v := v') (w' := w') ?_ (h v' w' ⟨encU_len, ?_⟩ h3 h4)
    · unfold execOp
      simp only [ho, resolve, invoke, builtin, Sem.run_bind, Sem.run_pure, Result.andThen_ok, List.map_toArray, List.map_cons, List.map_nil, hs, hx, hr]
    · rw [List.length_append, List.flatMap_append, hl]
      exact h1
/-- a list of bytes as a string -/
def strX (zs : List Nat) : ByteArray := strOfNums (zs.map fun n : Nat => (n : Int))
theorem byt_stringX {w : World} {a : Option Addr} {len : Nat} {zs : List Nat} (h : Byt w a len zs) (cap : Nat) (src dst e : TypeId) (hs : Tryd.prog.underlying src = some (.slice e)) (he : Tryd.prog.underlying e = some (.int .u8)) (hd : Tryd.prog.underlying dst = some .string) :
    (convert src dst (.slice a len cap)).run Tryd.prog w = .ok (.string (strX zs)) w := by
  by_cases h0 : len = 0
  · subst h0
    obtain rfl : zs = [] := List.eq_nil_of_length_eq_zero h.length
    cases a with
    | none => exact run_convert_bytes_nil w src e hs he 0 cap dst hd
    | some a =>
      have hl : (loadCells a 0).run Tryd.prog w = .ok (([] : List Int).map (Value.int .u8)).toArray w := by
        have := run_loadCells_list (P := Tryd.prog) w a [] (fun j v hj => by simp at hj)
        simpa using this
      rw [run_convert_bytes_string w src dst e _ 0 cap hs he hd, run_bytesToString w _ 0 cap [] hl]
      rfl
  · obtain ⟨b, off, rfl, hb, hc⟩ := h.at (by omega)
    refine run_convert_bytes_arg w src e hs he b off len cap (zs.map fun n : Nat => (n : Int)) (by rw [List.length_map]; exact h.length) (fun i hi => ?_) dst hd
    rw [hc i hi]
    have hl := h.length
    rw [List.getD_eq_getElem?_getD, List.getD_eq_getElem?_getD, List.getElem?_map, List.getElem?_eq_getElem (by omega)]
    rfl
end Go.Proofs.YtnbillhodbcfbaaDoor
