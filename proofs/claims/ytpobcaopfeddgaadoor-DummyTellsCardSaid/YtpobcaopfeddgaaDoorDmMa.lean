/- Positions over this seat's program: Makes. -/
import Derived.Test.YtpobcaopfeddgaaDoorDmRd
import Derived.Test.YtpobcaopfeddgaaDoorMDqa
import Derived.Test.YtpobcaopfeddgaaDoorDmAw
import Derived.Deep.LoopGhost
import Derived.Deep.CutRange
namespace Go.Proofs.YtpobcaopfeddgaaDoor
open Go.RowKit Go.Sort Go.Shelf Go.Maps Go.WideMaps

theorem results_cellt {P : Program} {fn : Func} {p q : Tmp} {ty : TypeId} (h : fn.results = #[.cell p ty, .tmp q]) (tmps : Array Value) (w : World) (g : Nat) (t : TypeId) (cs : Array Value) (fr : Nat × Nat) (d : TypeDesc)
    (hp : tmps.getD p undef = .pointer (some ⟨g, 0, none⟩)) (hg : w.heap[g]? = some (.cells cs t fr))
    (hu : P.underlying ty = some d) (hd : (match d with | .struct _ | .array _ _ => true | _ => false) = true) (hi : (P.info? ty).map (·.size) = some cs.size) :
    (results fn tmps).run P w = .ok (.tuple #[.agg cs, tmps.getD q undef]) w := by
  have hp' : tmps[p]?.getD undef = .pointer (some ⟨g, 0, none⟩) := by simpa using hp
  simp [results, h, hp', asAddr, run_loadVar_row w g t ty cs fr d hg hu hd hi]
theorem tab_put (n : Nat) (f g : Nat → Nat) (i v : Nat) (h : ∀ j, j < n → g j = if j = i then v else f j) : (tab n f).setIfInBounds i (.int .i64 ((v : Nat) : Int)) = tab n g := by
  apply Array.ext_getElem?
  intro j
  rw [Array.getElem?_setIfInBounds]
  by_cases hj : j < n
  · rw [tab_get n g j hj, h j hj]
    by_cases e : i = j
    · subst e
      simp [hj]
    · have e' : ¬ j = i := fun h => e h.symm
      rw [if_neg e, if_neg e', tab_get n f j hj]
  · have h1 : (tab n f)[j]? = none := by simp; omega
    have h2 : (tab n g)[j]? = none := by simp; omega
    rw [h1, h2]
    by_cases e : i = j
    · subst e
      simp [hj]
    · simp [e]
/-- what each declarer makes in each denomination -/
def mkF (h : Nat → Nat) (q i : Nat) : Nat := sideV (i % 4) q (val (i / 4) (4 * q) ⟨h, (i % 4 + 1) % 4, []⟩)
/-- the first k of them -/
def mkK (f : Nat → Nat) (k i : Nat) : Nat := if i < k then f i else 0
theorem size_mk : (Tryd.prog.info? 52).map (·.size) = some 20 := by kernel_rfl
theorem tab20_zero : tab 20 (fun _ => 0) = #[.int .i64 0, .int .i64 0, .int .i64 0, .int .i64 0, .int .i64 0, .int .i64 0, .int .i64 0, .int .i64 0, .int .i64 0, .int .i64 0, .int .i64 0, .int .i64 0, .int .i64 0, .int .i64 0, .int .i64 0, .int .i64 0, .int .i64 0, .int .i64 0, .int .i64 0, .int .i64 0] := rfl
set_option maxHeartbeats 1000000 in
set_option maxRecDepth 10000 in
theorem dm_Makes_no (h : Nat → Nat) (hw : ∀ s, W64 (h s)) (w : World) (hr : rightB h 0 0 [] = false) :
    Calls Tryd.prog 23 #[.agg (deA h)] w fun e w' => e = .returned (.tuple #[.agg (tab 20 fun _ => 0), .int .i64 2]) ∧ Below w.heap.size w w' := by
  have HRI := Lib.hid (fun W => dm_Right h 0 0 [] none 0 hw (by decide) (by decide) W (byt_nil W))
  rw [hr] at HRI
  unfold posA at HRI
  simp only [show ((0 : Nat) : Int) = 0 from rfl, List.length_nil] at HRI
  clear hr hw
  simp only [deA]
  go_enter Tryd.func23, Tryd.ntmps23
  go_wp2_with fail
  rw [← tab20_zero]
  have hr1 := (((Row.new w 24 #[.int .u64 (h 0 : Int), .int .u64 (h 1 : Int), .int .u64 (h 2 : Int), .int .u64 (h 3 : Int)]).alloc (.cells (tab 20 fun _ => 0) 52)).alloc (.cells (tab 20 fun _ => 0) 52))
  have hr2 := ((Row.new1 w (.cells #[.int .u64 (h 0 : Int), .int .u64 (h 1 : Int), .int .u64 (h 2 : Int), .int .u64 (h 3 : Int)] 24) 52 (tab 20 fun _ => 0)).alloc (.cells (tab 20 fun _ => 0) 52))
  have hr4 := (Row.new2 w (.cells #[.int .u64 (h 0 : Int), .int .u64 (h 1 : Int), .int .u64 (h 2 : Int), .int .u64 (h 3 : Int)] 24) (.cells (tab 20 fun _ => 0) 52) 52 (tab 20 fun _ => 0))
  have hb := (((Below.refl w.heap.size w).alloc (Nat.le_refl _) (.cells #[.int .u64 (h 0 : Int), .int .u64 (h 1 : Int), .int .u64 (h 2 : Int), .int .u64 (h 3 : Int)] 24)).alloc (by rw [World.size_alloc]; omega) (.cells (tab 20 fun _ => 0) 52)).alloc (by rw [World.size_alloc, World.size_alloc]; omega) (.cells (tab 20 fun _ => 0) 52)
  have HB := Lib.hid hb
  have HR2 := Lib.hid hr2
  have HR4 := Lib.hid hr4
  clear hr1 hr2 hr4 hb
  generalize ((w.alloc (.cells #[.int .u64 (h 0 : Int), .int .u64 (h 1 : Int), .int .u64 (h 2 : Int), .int .u64 (h 3 : Int)] 24)).alloc (.cells (tab 20 fun _ => 0) 52)).alloc (.cells (tab 20 fun _ => 0) 52) = w1 at *
  refine (HRI.out _).mono ?_
  rintro e w2 ⟨rfl, hb2⟩
  have HR22 := Lib.hid (HR2.out.later hb2)
  have HR42 := Lib.hid (HR4.out.later hb2)
  have HB2 := Lib.hid (HB.out.trans (hb2.mono HB.out.size))
  clear hb2
  have HTZ : Hid ((tab 20 fun _ => 0).size = 20 ∧ (tab 20 fun _ => 0).all (·.oneCell') = true) := Lib.hid ⟨tab_size _ _, tab_one _ _⟩
  obtain ⟨TZ, hTZ⟩ : ∃ x, tab 20 (fun _ => 0) = x := ⟨_, rfl⟩
  rw [hTZ] at HR22 HR42 HTZ
  have HTE := Lib.hid hTZ
  clear hTZ
  go_wp2_with (first
    | refine wpList_load_row rfl 52 (.tmp 4) rfl (w.heap.size + 1 + 1) rfl 52 TZ (0, 0) _ HR42.out Tryd.underlying52 rfl (by rw [HTZ.out.1]; exact size_mk) ?_
    | refine wpList_store_row rfl 52 (.tmp 2) (.tmp 14) rfl (w.heap.size + 1) TZ rfl rfl 52 _ HR22.out (by rw [HTZ.out.1]; exact size_mk) rfl HTZ.out.2 ?_)
  refine bodyPost_ret (v := .tuple #[.agg TZ, .int .i64 2]) (results_cellt Tryd.results23 _ _ (w.heap.size + 1) _ TZ (0, 0) _ rfl (setRow_heap _ _ _ _ _ _ HR22.out) Tryd.underlying52 rfl (by rw [HTZ.out.1]; exact size_mk)) rfl ⟨by rw [HTE.out], below_setRow HB2.out (Nat.le_succ _) _⟩
theorem PosT.lead {h : Nat → Nat} {q : Nat} (H : PosT q ⟨h, 0, []⟩) {ld : Nat} (hl : ld < 4) : PosT q ⟨h, ld, []⟩ := by
  have ow : ∀ {s c l}, Own ⟨h, l, []⟩ s c → s < 4 ∧ (h s).testBit c = true := fun ho => own_deal ho
  refine ⟨⟨⟨H.ok.pk.1, by simp⟩, hl, (fun x hx => by cases hx), H.ok.w64⟩, fun s s' c h1 h2 => H.uniq s s' c (own_hand (ow h1).1 (ow h1).2) (own_hand (ow h2).1 (ow h2).2), fun i hi => ?_, H.q6, (fun h => by simp at h), (fun x hx => by cases hx), rfl⟩
  have := H.evn ((ld + i) % 4) (Nat.mod_lt _ (by decide))
  have e : (0 + (ld + i) % 4) % 4 = (ld + i) % 4 := by omega
  rw [e] at this
  exact this
/-- between the rounds of Makes: k places are filled -/
structure MkI (h : Nat → Nat) (f : Nat → Nat) (b1 b2 b4 : Nat) (w0 : World) (k : Nat) (W : World) : Prop where
  d : Row W b1 24 (deA h)
  r2 : Row W b2 52 (tab 20 fun _ => 0)
  r4 : Row W b4 52 (tab 20 (mkK f k))
  tb : Tab W
  bl : Below w0.heap.size w0 W
theorem MkI.below {h f : Nat → Nat} {b1 b2 b4 k : Nat} {w0 W W' : World} (H : MkI h f b1 b2 b4 w0 k W) (hb : Below W.heap.size W W') : MkI h f b1 b2 b4 w0 k W' :=
  ⟨H.d.later hb, H.r2.later hb, H.r4.later hb, H.tb.below H.tb.pos hb, H.bl.trans (hb.mono H.bl.size)⟩
theorem MkI.put {h F : Nat → Nat} {b1 b2 b4 k : Nat} {w0 W : World} (H : MkI h F b1 b2 b4 w0 k W) (h1 : b1 ≠ b4) (h2 : b2 ≠ b4) (h4 : w0.heap.size ≤ b4) (hp : 0 < w0.heap.size) {v i : Nat} (hv : F k = v) (hi : i = k) : MkI h F b1 b2 b4 w0 (k + 1) (W.setCell ⟨b4, i, none⟩ (.int .i64 (v : Int))) := by
  subst hi hv
  refine ⟨H.d.other h1, H.r2.other h2, ?_, But.tab H.tb (But.setCell (B := W.heap.size) _ _ _) H.tb.pos (by omega), But.below H.bl (But.setCell (B := w0.heap.size) _ _ _) (Nat.le_refl _) h4⟩
  rw [← tab_put 20 (mkK F i) (mkK F (i + 1)) i (F i) fun j _ => ?_]
  · exact H.r4.set i _
  · unfold mkK
    by_cases e : j = i
    · subst e; rw [if_pos (by omega), if_pos rfl]
    · rw [if_neg e]
      by_cases e2 : j < i
      · rw [if_pos e2, if_pos (by omega)]
      · rw [if_neg e2, if_neg (by omega)]
set_option maxHeartbeats 4000000 in
set_option maxRecDepth 10000 in
theorem dm_Makes_ok (h : Nat → Nat) (q : Nat) (hw : ∀ s, W64 (h s)) (w : World) (hT : Tab w) (hr : rightB h 0 0 [] = true) (hq : pop (h 0) = q) (hq4 : q ≤ 4) :
    Calls Tryd.prog 23 #[.agg (deA h)] w fun e w' => e = .returned (.tuple #[.agg (tab 20 (mkF h q)), .int .i64 0]) ∧ Below w.heap.size w w' := by
  have HRI := Lib.hid (fun W => dm_Right h 0 0 [] none 0 hw (by decide) (by decide) W (byt_nil W))
  have hpos := (PosT.of hw hr).1
  have e0 : (0 + ([] : List Nat).length) % 4 = 0 := rfl
  rw [e0, hq] at hpos
  have HPS := Lib.hid (fun ld (hl : ld < 4) => hpos.lead hl)
  rw [hr] at HRI
  unfold posA at HRI
  simp only [show ((0 : Nat) : Int) = 0 from rfl, List.length_nil] at HRI
  have HON := Lib.hid (fun W => bits_ones (h 0) (hw 0) W)
  rw [hq] at HON
  have HQ4 := Lib.hid hq4
  have HTW := Lib.hid hT
  obtain ⟨F, hF⟩ : ∃ F, mkF h q = F := ⟨_, rfl⟩
  have HF := Lib.hid hF
  rw [hF]
  clear hF hr hw hpos hq hT e0
  simp only [deA]
  go_enter Tryd.func23, Tryd.ntmps23
  go_wp2_with fail
  rw [← tab20_zero]
  have hr1 := (((Row.new w 24 #[.int .u64 (h 0 : Int), .int .u64 (h 1 : Int), .int .u64 (h 2 : Int), .int .u64 (h 3 : Int)]).alloc (.cells (tab 20 fun _ => 0) 52)).alloc (.cells (tab 20 fun _ => 0) 52))
  have hr2 := ((Row.new1 w (.cells #[.int .u64 (h 0 : Int), .int .u64 (h 1 : Int), .int .u64 (h 2 : Int), .int .u64 (h 3 : Int)] 24) 52 (tab 20 fun _ => 0)).alloc (.cells (tab 20 fun _ => 0) 52))
  have hr4 := (Row.new2 w (.cells #[.int .u64 (h 0 : Int), .int .u64 (h 1 : Int), .int .u64 (h 2 : Int), .int .u64 (h 3 : Int)] 24) (.cells (tab 20 fun _ => 0) 52) 52 (tab 20 fun _ => 0))
  have hb := (((Below.refl w.heap.size w).alloc (Nat.le_refl _) (.cells #[.int .u64 (h 0 : Int), .int .u64 (h 1 : Int), .int .u64 (h 2 : Int), .int .u64 (h 3 : Int)] 24)).alloc (by rw [World.size_alloc]; omega) (.cells (tab 20 fun _ => 0) 52)).alloc (by rw [World.size_alloc, World.size_alloc]; omega) (.cells (tab 20 fun _ => 0) 52)
  have hmk0 : tab 20 (fun _ => 0) = tab 20 (mkK F 0) := tab_congr fun i _ => (if_neg (by omega)).symm
  have HMI := Lib.hid (show MkI h F w.heap.size (w.heap.size + 1) (w.heap.size + 1 + 1) w 0 _ from ⟨hr1, hr2, hmk0 ▸ hr4, HTW.out.below HTW.out.pos hb, hb⟩)
  clear hr1 hr2 hr4 hb hmk0
  generalize ((w.alloc (.cells #[.int .u64 (h 0 : Int), .int .u64 (h 1 : Int), .int .u64 (h 2 : Int), .int .u64 (h 3 : Int)] 24)).alloc (.cells (tab 20 fun _ => 0) 52)).alloc (.cells (tab 20 fun _ => 0) 52) = w1 at *
  refine (HRI.out _).mono ?_
  rintro e w2 ⟨rfl, hb2⟩
  have HM2 := Lib.hid (HMI.out.below hb2)
  clear hb2
  have HLT := Lib.hid (show w.heap.size + 1 + 1 < w2.heap.size from HM2.out.r4.lt)
  obtain ⟨b0, hb0⟩ : ∃ b, w.heap.size = b := ⟨_, rfl⟩
  have HB0 := Lib.hid hb0
  rw [hb0] at HM2 HLT ⊢
  obtain ⟨b2, hb2⟩ : ∃ b, b0 + 1 = b := ⟨_, rfl⟩
  obtain ⟨b4, hb4⟩ : ∃ b, b2 + 1 = b := ⟨_, rfl⟩
  have HORD := Lib.hid (And.intro hb2 hb4)
  rw [hb2, hb4] at HM2 HLT ⊢
  clear hb0 hb2 hb4
  have c0 : _ = some (Value.int .u64 (h 0 : Int)) := HM2.out.d.cell 0
  go_wp2_with fail
  refine (HON.out _).mono ?_
  rintro e w3 ⟨rfl, rfl⟩
  go_wp2_with fail
  clear c0
  go_loopg [6, 18] 5 (fun gj _ i wx => ∃ j : Nat, gj = 5 - j ∧ j ≤ 5 ∧ i = .int .u8 (j : Int) ∧ MkI h F b0 b2 b4 w (4 * j) wx)
  case atStart => exact ⟨0, rfl, by omega, rfl, HM2.out⟩
  case round =>
    obtain ⟨j, rfl, hj, rfl, hmi⟩ := hrel
    have HMJ := Lib.hid hmi
    clear hmi
    by_cases hjl : j < 5
    · have hdj : decide ((j : Int) < 5) = true := by simp; omega
      go_wp2_with fail
      refine (dm_newSolver j _).mono ?_
      rintro e w3 ⟨rfl, rfl⟩
      have hb3 := ((Below.refl wr.heap.size wr).alloc (Nat.le_refl _) (.map #[] 0)).alloc (by rw [World.size_alloc]; omega) (.cells #[.int .u8 (j : Int), .map (some wr.heap.size)] 91)
      have HSV := Lib.hid (slv_new j wr)
      have HM3 := Lib.hid (HMJ.out.below hb3)
      have HL3 := Lib.hid (show b0 < wr.heap.size ∧ b2 < wr.heap.size ∧ b4 < wr.heap.size from ⟨HMJ.out.d.lt, HMJ.out.r2.lt, HMJ.out.r4.lt⟩)
      clear hb3
      obtain ⟨bm, hbm⟩ : ∃ b, wr.heap.size = b := ⟨_, rfl⟩
      rw [hbm] at HSV HM3 HL3 ⊢
      clear hbm
      generalize (wr.alloc (.map #[] 0)).alloc (.cells #[.int .u8 (j : Int), .map (some bm)] 91) = w3 at *
      go_wp2_with fail
      clear hdj
      go_loopg [8, 9, 23] 4 (fun gs _ _ i wx => ∃ s : Nat, gs = 4 - s ∧ s ≤ 4 ∧ i = .int .u8 (s : Int) ∧ MkI h F b0 b2 b4 w (4 * j + s) wx ∧ Slv j (bm + 1) bm (s * 5 ^ (4 * q)) wx)
      case atStart => exact ⟨0, rfl, by omega, rfl, HM3.out, by rw [Nat.zero_mul]; exact HSV.out⟩
      case round =>
        obtain ⟨s, rfl, hs, rfl, hmi, hsv⟩ := hrel
        have HMS := Lib.hid hmi
        have HVS := Lib.hid hsv
        clear hmi hsv
        by_cases hsl : s < 4
        · have hds : decide ((s : Int) < 4) = true := by simp; omega
          obtain ⟨x, hx⟩ : ∃ x, (s + 1) % 4 = x := ⟨_, rfl⟩
          have hxi : ((s : Int) + 1) % 4 = (x : Int) := by omega
          have hx4 : x < 4 := by omega
          have hp := HPS.out x hx4
          have HPW : Hid (s * 5 ^ (4 * q) + 5 ^ (4 * q) < maxLen) := Lib.hid (by
            have h2 := Nat.pow_le_pow_right (n := 5) (by decide) (show 4 * q ≤ 16 by have := HQ4.out; omega)
            have h3 : 4 * 5 ^ 16 < maxLen := by unfold maxLen; decide
            have h4 : s * 5 ^ (4 * q) ≤ 3 * 5 ^ (4 * q) := Nat.mul_le_mul_right _ (by omega)
            omega)
          have HAL := Lib.hid (dm_all (tr := j) (by omega) (bm + 1) bm (s * 5 ^ (4 * q)) ⟨h, x, []⟩ q (4 * q) wr hp.ok hp.uniq hp.evn (by simp) HQ4.out HVS.out HMS.out.tb HPW.out)
          have HVL := Lib.hid (val_le j (4 * q) q ⟨h, x, []⟩ (by simp) hp.evn (by simp))
          have HFX : Hid (F (4 * j + s) = sideV s q (val j (4 * q) ⟨h, x, []⟩)) := Lib.hid (by
            rw [← HF.out]
            unfold mkF
            rw [show (4 * j + s) % 4 = s by omega, show (4 * j + s) / 4 = j by omega, hx])
          obtain ⟨V, hV⟩ : ∃ V, val j (4 * q) ⟨h, x, []⟩ = V := ⟨_, rfl⟩
          rw [hV] at HAL HVL HFX
          have d0 : _ = some (Value.int .u64 (h 0 : Int)) := HMS.out.d.cell 0
          have d1 : _ = some (Value.int .u64 (h 1 : Int)) := HMS.out.d.cell 1
          have d2 : _ = some (Value.int .u64 (h 2 : Int)) := HMS.out.d.cell 2
          have d3 : _ = some (Value.int .u64 (h 3 : Int)) := HMS.out.d.cell 3
          clear hp hV hx
          unfold tbA at HAL
          simp only [List.length_nil, List.getD_nil, show ((0 : Nat) : Int) = 0 from rfl] at HAL
          go_wp2_with fail
          refine HAL.out.mono ?_
          rintro e w5 ⟨rfl, hs5, hb5⟩
          have HV5 : Hid (Slv j (bm + 1) bm ((s + 1) * 5 ^ (4 * q)) w5) := Lib.hid (by rw [Nat.succ_mul]; exact hs5)
          have hl3 := HL3.out
          have hls := HVS.out.lt
          have HM5 : Hid (MkI h F b0 b2 b4 w (4 * j + s) w5) := Lib.hid ⟨hb5.row HMS.out.d HMS.out.d.lt (by omega), hb5.row HMS.out.r2 HMS.out.r2.lt (by omega), hb5.row HMS.out.r4 HMS.out.r4.lt (by omega), HMS.out.tb.but2 hb5 HMS.out.tb.pos (tab_ne HVS.out HMS.out.tb), But.below HMS.out.bl hb5 HMS.out.bl.size (by have := HB0.out; omega)⟩
          have hv := HVL.out
          have fr := HM5.out.r4.frozen (j * 4 + s)
          have dr : ∃ u, _ = some u := ⟨_, (HM5.out.r4.cell (j * 4 + s)).trans (tab_get 20 _ _ (by omega))⟩
          obtain ⟨u0, dr⟩ := dr
          have hji : (j : Int) < 5 := by omega
          have hsi : (s : Int) < 4 := by omega
          have hq4' := HQ4.out
          clear hs5 hb5 hl3 hls d0 d1 d2 d3
          rcases (show s % 2 = 0 ∨ s % 2 = 1 by omega) with hp | hp
          · have hpi : (s : Int) % 2 = 0 := by omega
            have HFV : Hid (F (4 * j + s) = V) := Lib.hid (by rw [HFX.out]; exact if_pos hp)
            clear hp
            go_wp2_with fail
            have hm := HM5.out.put (v := V) (i := j * 4 + s) (by have := HORD.out; omega) (by have := HORD.out; omega) (by rw [HB0.out]; have := HORD.out; omega) HTW.out.pos HFV.out (by omega)
            have hsv := HV5.out.but (But.setCell (B := w5.heap.size) (Bm := b4) w5 (j * 4 + s) (.int .i64 (V : Int))) HV5.out.lt.1 HV5.out.lt.2 (by have := HL3.out; omega) (by have := HL3.out; omega)
            have HM6 := Lib.hid hm
            have HV6 := Lib.hid hsv
            clear hm hsv
            go_roundg (4 - (s + 1))
            case measure => omega
            case rel => exact ⟨s + 1, rfl, by omega, by simp, HM6.out, HV6.out⟩
          · have hpi : (s : Int) % 2 = 1 := by omega
            have HFV : Hid (F (4 * j + s) = q - V) := Lib.hid (by rw [HFX.out]; exact if_neg (by omega))
            clear hp
            have hqv : (q : Int) - (V : Int) = ((q - V : Nat) : Int) := by omega
            obtain ⟨V2, hV2⟩ : ∃ x, q - V = x := ⟨_, rfl⟩
            rw [hV2] at HFV hqv
            clear hV2
            go_wp2_with fail
            have hm := HM5.out.put (v := V2) (i := j * 4 + s) (by have := HORD.out; omega) (by have := HORD.out; omega) (by rw [HB0.out]; have := HORD.out; omega) HTW.out.pos HFV.out (by omega)
            have hsv := HV5.out.but (But.setCell (B := w5.heap.size) (Bm := b4) w5 (j * 4 + s) (.int .i64 (V2 : Int))) HV5.out.lt.1 HV5.out.lt.2 (by have := HL3.out; omega) (by have := HL3.out; omega)
            have HM6 := Lib.hid hm
            have HV6 := Lib.hid hsv
            clear hm hsv
            go_roundg (4 - (s + 1))
            case measure => omega
            case rel => exact ⟨s + 1, rfl, by omega, by simp, HM6.out, HV6.out⟩
        · obtain rfl : s = 4 := by omega
          simp only [show ((4 : Nat) : Int) = 4 from rfl]
          go_wp2_with fail
          go_roundg (5 - (j + 1))
          case measure => omega
          case rel => exact ⟨j + 1, rfl, by omega, by simp, by rw [Nat.mul_add]; exact HMS.out⟩
    · obtain rfl : j = 5 := by omega
      simp only [show ((5 : Nat) : Int) = 5 from rfl]
      have HTZ : Hid ((tab 20 (mkK F (4 * 5))).size = 20 ∧ (tab 20 (mkK F (4 * 5))).all (·.oneCell') = true) := Lib.hid ⟨tab_size _ _, tab_one _ _⟩
      have HTE : Hid (tab 20 (mkK F (4 * 5)) = tab 20 F) := Lib.hid (tab_congr fun i hi => if_pos (by omega))
      have HR4 := Lib.hid HMJ.out.r4
      have HR2 := Lib.hid HMJ.out.r2
      obtain ⟨TZ, hTZ⟩ : ∃ x, tab 20 (mkK F (4 * 5)) = x := ⟨_, rfl⟩
      rw [hTZ] at HTZ HR4 HTE
      clear hTZ
      go_wp2_with (first
        | refine wpList_load_row rfl 52 (.tmp 4) rfl b4 rfl 52 TZ (0, 0) _ HR4.out Tryd.underlying52 rfl (by rw [HTZ.out.1]; exact size_mk) ?_
        | refine wpList_store_row rfl 52 (.tmp 2) (.tmp 46) rfl b2 TZ rfl rfl 52 _ HR2.out (by rw [HTZ.out.1]; exact size_mk) (by rw [HTZ.out.1, tab_size]) HTZ.out.2 ?_)
      refine bodyPost_ret (v := .tuple #[.agg TZ, .int .i64 0]) (results_cellt Tryd.results23 _ _ b2 _ TZ (0, 0) _ rfl (setRow_heap _ _ _ _ _ _ HR2.out) Tryd.underlying52 rfl (by rw [HTZ.out.1]; exact size_mk)) rfl ⟨by rw [HTE.out], below_setRow HMJ.out.bl (by have := HORD.out; have := HB0.out; omega) _⟩
end Go.Proofs.YtpobcaopfeddgaaDoor
