/- ClH, ClC, ClD in one text. -/
import Derived.Test.YtnbillhodbcfbaaDoorMCla
import Derived.Test.YtnbillhodbcfbaaDoorMDtb
import Derived.Test.YtnbillhodbcfbaaDoorMDpe

/- The map of claim.least: keys and numbers. -/
namespace Go.Proofs.YtnbillhodbcfbaaDoor
open Go.RowKit Go.Sort Go.Shelf Go.Maps Go.WideMaps

theorem ck_row : (117 : TypeId) < Tryd.prog.types.size := of_decide_eq_true (by kernel_rfl)
theorem ck_law : KeyLaw Tryd.prog 117 := deep_law_laid laidOut_dm (m := 3) (by omega) ck_row (by kernel_rfl) (by kernel_rfl)
theorem ck_keyed : Keyed Tryd.prog 117 := Keyed.of_law ck_law
/-- a number -/
def numR (v : Value) : Option (DataW Unit × List MemPlace) :=
  match v with
  | .int .i64 a => some (.lit (.int .i64 a), [])
  | _ => none
def numD (a : Int) : DataW Unit := .lit (.int .i64 a)
theorem numR_at (a : Int) : numR (.int .i64 a) = some (numD a, []) := rfl
theorem cells_ck : Tryd.prog.cellsOf 117 = 5 := by kernel_rfl
theorem lits_ck (d : Nat) (h : Nat → Nat) (ld : Nat) (hw : ∀ i, i < 4 → W64 (h i)) (hl : ld < 256) : Tryd.prog.keyLits (d + 3) 117 [.int .u64 (h 0 : Int), .int .u64 (h 1 : Int), .int .u64 (h 2 : Int), .int .u64 (h 3 : Int), .int .u8 (ld : Int)] = some [.int .u64 (h 0 : Int), .int .u64 (h 1 : Int), .int .u64 (h 2 : Int), .int .u64 (h 3 : Int), .int .u8 (ld : Int)] := by
  have l0 := lits_deal d h hw
  have l1 := lits_u8 (d + 1) ld hl
  unfold Program.keyLits
  simp only [Tryd.underlying117, cells_ck]
  simp [cells_deal, cells_u8, l0, l1]
theorem keyOf_ck (h : Nat → Nat) (ld : Nat) (hw : ∀ i, i < 4 → W64 (h i)) (hl : ld < 256) : keyOf Tryd.prog 117 (keyV h ld) = some (keyL h ld) := by
  obtain ⟨d, hd⟩ := size_types
  have hk := lits_ck d h ld hw hl
  have h1 : Tryd.prog.keyType 117 = true := by kernel_rfl
  have h2 : Value.formed Tryd.prog 117 (keyV h ld) = true := by
    unfold Value.formed keyV
    simp only [Tryd.underlying117, cells_ck]
    rfl
  have h3 : (keyV h ld).cells.toList = [.int .u64 (h 0 : Int), .int .u64 (h 1 : Int), .int .u64 (h 2 : Int), .int .u64 (h 3 : Int), .int .u8 (ld : Int)] := rfl
  unfold keyOf
  simp only [Tryd.underlying117]
  rw [h1, h2, h3, hd, hk]
  rfl
theorem zero_num (w : World) : (zeroValue 3).run Tryd.prog w = .ok (.int .i64 0) w := by kernel_rfl
theorem mn_congr {sd : Nat} {fr : Bool} {line : List Nat} {h h' : Nat → Nat} (tr n ld : Nat) (hh : In52 h) (hh' : In52 h') (e : ∀ i, i < 4 → h i = h' i) : mn sd tr fr line n ⟨h, ld, []⟩ = mn sd tr fr line n ⟨h', ld, []⟩ := by
  refine (iso_mn (σ := id) n (t := ⟨h, ld, []⟩) (t' := ⟨h', ld, []⟩) (tr := tr) (tr' := tr) ⟨rfl, rfl, fun s hs c' => ?_, fun s s' c c' _ _ h => h, fun s s' c c' _ _ => Iff.rfl, fun s c _ => Iff.rfl, fun s s' c c' _ _ _ _ => Iff.rfl⟩ (.inr fun _ _ _ _ => rfl) ⟨hh, by simp⟩ ⟨hh', by simp⟩).symm
  show (h' s).testBit c' = true ↔ ∃ c, (h s).testBit c = true ∧ id c = c'
  rw [← e s hs]
  exact ⟨fun hb => ⟨c', hb, rfl⟩, fun ⟨c, hb, hc⟩ => by cases hc; exact hb⟩
/-- what is known is right -/
def GoodM (sd tr : Nat) (fr : Bool) (line : List Nat) (D : DataW Unit) : Prop :=
  ∀ h ld, In52 h → Uniq ⟨h, ld, []⟩ → ld < 4 → has D (keyL h ld) = true → D.atKey (keyL h ld) (numD 0) = numD (mn sd tr fr line (4 * pop (h 0)) ⟨h, ld, []⟩ : Int)
theorem GoodM.nil (sd tr : Nat) (fr : Bool) (line : List Nat) : GoodM sd tr fr line (.map []) := fun h ld _ _ _ hh => by cases hh
theorem GoodM.put {sd tr : Nat} {fr : Bool} {line : List Nat} {D : DataW Unit} (hg : GoodM sd tr fr line D) (hD : IsMap D) {h : Nat → Nat} {ld : Nat} (hh : In52 h) (hl : ld < 4) :
    GoodM sd tr fr line (D.put (keyL h ld) (numD (mn sd tr fr line (4 * pop (h 0)) ⟨h, ld, []⟩ : Int))) := by
  intro h' ld' hh' hu' hl' hhas
  by_cases e : keyL h' ld' = keyL h ld
  · obtain ⟨e1, rfl⟩ := keyL_inj (fun i hi => hh'.w64 hi) (by omega) (fun i hi => hh.w64 hi) (by omega) e
    rw [e, e1 0 (by decide), mn_congr tr _ ld' hh' hh e1]
    exact atKey_put_same hD (key_keyed.key (keyOf_key h ld' (fun i hi => hh.w64 hi) (by omega))) _ _
  · rw [has_put_other e] at hhas
    rw [atKey_put_other e]
    exact hg h' ld' hh' hu' hl' hhas
theorem numR_inv {v : Value} {d : DataW Unit} {ps : List MemPlace} (h : numR v = some (d, ps)) : ∃ a : Int, v = .int .i64 a ∧ d = numD a := by
  unfold numR at h
  split at h
  · simp only [Option.some.injEq, Prod.mk.injEq] at h
    exact ⟨_, rfl, h.1.symm⟩
  · cases h
theorem numD_inj {a b : Int} (h : numD a = numD b) : a = b := by
  unfold numD at h
  simpa using h
/-- what a look into the map gives -/
theorem look_num {W0 : World} {bm n : Nat} {D : DataW Unit} (h0 : W0.ownsMap Tryd.prog 117 numR bm n D) {h : Nat → Nat} {ld : Nat} (hh : In52 h) (hl : ld < 4) :
    ∃ a : Int, D.atKey (keyL h ld) (numD 0) = numD a ∧ ∀ W, W.ownsMap Tryd.prog 117 numR bm n D → (Instr.lookup 115 (.map (some bm)) (keyV h ld) true).run Tryd.prog W = .ok (.tuple #[.int .i64 a, .bool (has D (keyL h ld))]) W := by
  have hk := keyOf_ck h ld (fun i hi => hh.w64 hi) (by omega)
  obtain ⟨v, ps, -, hv⟩ := h0.look_ok ck_keyed Tryd.underlying115 (zero_num W0) (numR_at 0) hk
  obtain ⟨a, rfl, hd⟩ := numR_inv hv
  refine ⟨a, hd, fun W hW => ?_⟩
  obtain ⟨v2, ps2, hrun, hv2⟩ := hW.look_ok ck_keyed Tryd.underlying115 (zero_num W) (numR_at 0) hk
  obtain ⟨a2, rfl, hd2⟩ := numR_inv hv2
  rw [hd] at hd2
  obtain rfl := numD_inj hd2
  exact hrun
theorem size_ck : (Tryd.prog.info? 117).map (·.size) = some 5 := by kernel_rfl
theorem shr4_mn {sd : Nat} {line : List Nat} {h : Nat → Nat} (hh : In52 h) (ld tr n : Nat) : mn sd tr true line n ⟨shr4 h, ld, []⟩ = mn sd tr true line n ⟨h, ld, []⟩ := iso_mn n (shr4_iso hh ld tr) (.inl rfl) ⟨hh, by simp⟩ ⟨shr4_in hh, by simp⟩
end Go.Proofs.YtnbillhodbcfbaaDoor

/- Tables of package claim over this seat's program: turn, beats, first, start. -/
namespace Go.Proofs.YtnbillhodbcfbaaDoor
open Go.RowKit Go.Sort Go.Shelf

theorem size_ct : (Tryd.prog.info? 87).map (·.size) = some 10 := by kernel_rfl
theorem cl_turn (t : Tb) (h : TbOk t) (w : World) : Calls Tryd.prog 49 #[.agg (tbA t)] w fun e w' => e = .returned (.int .u8 (t.turn : Int)) ∧ Below w.heap.size w w' := by
  have h1 := h.ld
  have h2 := h.pk.2
  have HT : Hid (((t.ld : Int) + (t.cs.length : Int)) % 4 = ((t.turn : Nat) : Int)) := Lib.hid (by unfold Tb.turn; omega)
  have HB := Lib.hid ((Below.refl w.heap.size w).alloc (Nat.le_refl _) (.cells (tbA t) 87))
  go_enter Tryd.func49, Tryd.ntmps49
  go_wp2_with fail
  go_ret
  exact ⟨congrArg (fun x => Ending.returned (Value.int .u8 x)) HT.out, HB.out⟩
theorem cl_beats (tr c b : Nat) (ht : tr < 256) (hc : c < 256) (hb : b < 256) (w : World) : Calls Tryd.prog 74 #[.int .u8 (c : Int), .int .u8 (b : Int), .int .u8 (tr : Int)] w fun e w' => e = .returned (.bool (beatsB tr c b)) ∧ w = w' := by
  unfold beatsB
  have h1 : (c : Int) / 13 = ((c / 13 : Nat) : Int) := by omega
  have h2 : (b : Int) / 13 = ((b / 13 : Nat) : Int) := by omega
  generalize c / 13 = x at *
  generalize b / 13 = y at *
  by_cases e : x = y
  · subst e
    have e1 : ((x : Int) == (x : Int)) = true := by simp
    rw [if_pos rfl]
    by_cases g : b < c
    · have g1 : decide ((b : Int) < (c : Int)) = true := by simp; omega
      rw [decide_eq_true g]
      go_enter Tryd.func74, Tryd.ntmps74
      go_wp2_with fail
      go_ret
      exact ⟨rfl, rfl⟩
    · have g1 : decide ((b : Int) < (c : Int)) = false := by simp; omega
      rw [decide_eq_false g]
      go_enter Tryd.func74, Tryd.ntmps74
      go_wp2_with fail
      go_ret
      exact ⟨rfl, rfl⟩
  · have e1 : ((x : Int) == (y : Int)) = false := by simp; omega
    rw [if_neg e]
    by_cases g : x = tr
    · have g1 : ((x : Int) == (tr : Int)) = true := by simp; omega
      rw [decide_eq_true g]
      go_enter Tryd.func74, Tryd.ntmps74
      go_wp2_with fail
      go_ret
      exact ⟨rfl, rfl⟩
    · have g1 : ((x : Int) == (tr : Int)) = false := by simp; omega
      rw [decide_eq_false g]
      go_enter Tryd.func74, Tryd.ntmps74
      go_wp2_with fail
      go_ret
      exact ⟨rfl, rfl⟩
theorem cl_beatsB (tr c b : Nat) (ht : tr < 256) (hc : c < 256) (hb : b < 256) (w : World) : Calls Tryd.prog 74 #[.int .u8 (c : Int), .int .u8 (b : Int), .int .u8 (tr : Int)] w fun e w' => e = .returned (.bool (beatsB tr c b)) ∧ Below w.heap.size w w' :=
  (cl_beats tr c b ht hc hb w).mono fun _ _ ⟨h, e⟩ => ⟨h, e ▸ Below.refl _ _⟩
set_option maxHeartbeats 2000000 in
set_option maxRecDepth 10000 in
theorem cl_start (h : Nat → Nat) (tr ld : Nat) (ps : List Nat) (a : Option Addr) (cap : Nat) (hn : ps.length ≤ 3) (w : World) (hz : Byt w a ps.length ps) :
    Calls Tryd.prog 44 #[.agg (posA h tr ld (.slice a ps.length cap))] w fun e w' => e = .returned (.agg (tbA ⟨h, ld, ps⟩)) ∧ Below w.heap.size w w' := by
  have HST := Lib.hid (fun k (hk : k < ps.length) => tbA_start h ld ps hk hn)
  have HTL : Hid (ps.take ps.length = ps) := Lib.hid (List.take_length ..)
  have HT0 : Hid (ps.take 0 = []) := Lib.hid rfl
  have HLE := Lib.hid (fun k (hk : k ≤ ps.length) => show (ps.take k).length = k by rw [List.length_take]; omega)
  obtain ⟨n, hnn⟩ : ∃ n, ps.length = n := ⟨_, rfl⟩
  rw [hnn] at hz hn HST HTL HLE ⊢
  obtain ⟨PA, hPA⟩ : ∃ A, posA h tr ld (.slice a n cap) = A := ⟨_, rfl⟩
  have HPA := Lib.hid hPA
  rw [hPA]
  have HR := Lib.hid ((Row.new w 27 PA).alloc (.cells zeroT 87))
  have HZ0 := Lib.hid (Row.new1 w (.cells PA 27) 87 zeroT)
  have hb1 : Below w.heap.size w ((w.alloc (.cells PA 27)).alloc (.cells zeroT 87)) := ((Below.refl _ _).alloc (Nat.le_refl _) _).alloc (by simp) _
  have HB := Lib.hid hb1
  have HZ := Lib.hid (hz.below (Nat.le_refl _) hb1)
  have HZW := Lib.hid hz
  have HN := Lib.hid hn
  obtain ⟨b0, hb0⟩ : ∃ b, w.heap.size = b := ⟨_, rfl⟩
  have HB0 := Lib.hid hb0
  rw [hb0] at HR HZ0
  clear hPA hnn hz hb1
  go_enter Tryd.func44, Tryd.ntmps44
  go_upto_region 1 with fail
  clear hb0
  generalize (w.alloc (.cells PA 27)).alloc (.cells zeroT 87) = W1 at *
  have c6 : W1.cell? ⟨b0, 6, none⟩ = some (.slice a n cap) := (HR.out.cell 6).trans (by rw [← HPA.out]; rfl)
  have c5 : W1.cell? ⟨b0, 5, none⟩ = some (.int .u8 (ld : Int)) := (HR.out.cell 5).trans (by rw [← HPA.out]; rfl)
  have c0 : W1.cell? ⟨b0, 0, none⟩ = some (.int .u64 (h 0 : Int)) := (HR.out.cell 0).trans (by rw [← HPA.out]; rfl)
  have c1 : W1.cell? ⟨b0, 1, none⟩ = some (.int .u64 (h 1 : Int)) := (HR.out.cell 1).trans (by rw [← HPA.out]; rfl)
  have c2 : W1.cell? ⟨b0, 2, none⟩ = some (.int .u64 (h 2 : Int)) := (HR.out.cell 2).trans (by rw [← HPA.out]; rfl)
  have c3 : W1.cell? ⟨b0, 3, none⟩ = some (.int .u64 (h 3 : Int)) := (HR.out.cell 3).trans (by rw [← HPA.out]; rfl)
  go_upto_region 2 with fail
  have HL1 := Lib.hid (show b0 + 1 < W1.heap.size from HZ0.out.lt)
  have HR3 := Lib.hid (show Row (W1.alloc (.cells #[.int .u64 (h 0 : Int), .int .u64 (h 1 : Int), .int .u64 (h 2 : Int), .int .u64 (h 3 : Int), .int .u8 (ld : Int), .int .u8 0, .int .u8 0, .int .u8 0, .int .u8 0, .int .u8 0] 87)) W1.heap.size 87 (tbA ⟨h, ld, []⟩) from Row.new W1 _ _)
  have hb2 := (Below.refl W1.heap.size W1).alloc (Nat.le_refl _) (.cells #[.int .u64 (h 0 : Int), .int .u64 (h 1 : Int), .int .u64 (h 2 : Int), .int .u64 (h 3 : Int), .int .u8 (ld : Int), .int .u8 0, .int .u8 0, .int .u8 0, .int .u8 0, .int .u8 0] 87)
  have HR2 := Lib.hid (HR.out.later hb2)
  have HZ2 := Lib.hid (HZ0.out.later hb2)
  have HY2 := Lib.hid (HZ.out.below (Nat.le_refl _) hb2)
  have HB2 := Lib.hid (HB.out.trans (hb2.mono HB.out.size))
  obtain ⟨b3, hb3⟩ : ∃ b, W1.heap.size = b := ⟨_, rfl⟩
  have HB3 := Lib.hid (show w.heap.size ≤ b3 from by rw [← hb3]; exact HB.out.size)
  rw [hb3] at HR3 HL1 ⊢
  clear hb3 hb2 c0 c1 c2 c3 c5 c6 HR HZ0 HB HZ
  generalize W1.alloc (.cells #[.int .u64 (h 0 : Int), .int .u64 (h 1 : Int), .int .u64 (h 2 : Int), .int .u64 (h 3 : Int), .int .u8 (ld : Int), .int .u8 0, .int .u8 0, .int .u8 0, .int .u8 0, .int .u8 0] 87) = W2 at *
  have c6 : W2.cell? ⟨b0, 6, none⟩ = some (.slice a n cap) := (HR2.out.cell 6).trans (by rw [← HPA.out]; rfl)
  go_wp2_with fail
  clear c6 hn
  go_loopw [5, 14] (fun _ i wr => ∃ k : Nat, k ≤ n ∧ i = .int .i64 (k : Int) ∧ Row wr b3 87 (tbA ⟨h, ld, ps.take k⟩) ∧ Below b3 W2 wr) (fun _ i _ => n - (intOf i).toNat)
  case atStart => exact ⟨0, by omega, rfl, HR3.out, Below.refl _ _⟩
  case round =>
    obtain ⟨k, hk, rfl, hR, hB⟩ := hrel
    have HRk := Lib.hid hR
    have HBk := Lib.hid hB
    have hn := HN.out
    by_cases hlt : k < n
    · have hdk : decide (k < n) = true := by simp; omega
      obtain ⟨bb, off, ha, hbl, hcells⟩ := HY2.out.at (by omega)
      have hl1 := HL1.out
      have hbb : bb < b3 := by
        obtain ⟨bb', off', ha', hbl', -⟩ := HZW.out.at (by omega)
        rw [ha] at ha'
        simp only [Option.some.injEq, Addr.mk.injEq] at ha'
        have := HB3.out
        omega
      · have ek := (hB.cell (p := ⟨bb, off + k, none⟩) hbb).trans (hcells k hlt)
        have hx := HY2.out.byte k
        have HSTk := Lib.hid (HST.out k hlt)
        have HLk := HLE.out k hk
        have d5 : wr.cell? ⟨b3, 5, none⟩ = some (.int .u8 (k : Int)) := (hR.cell 5).trans (by show some (Value.int .u8 (((ps.take k).length : Nat) : Int)) = _; rw [HLk])
        have d6 : ∃ v, wr.cell? ⟨b3, 6 + k, none⟩ = some v := ⟨_, (hR.cell _).trans (tbA_c _ _ (by omega))⟩
        obtain ⟨v6, d6⟩ := d6
        have k6 := hR.frozen (6 + k)
        have k5 := hR.frozen 5
        have hki : (k : Int) < 4 := by omega
        have hne : ¬ (5 = 6 + k) := by omega
        have hne' : ¬ (6 + k = 5) := by omega
        obtain ⟨c, hc⟩ : ∃ c, ps.getD k 0 = c := ⟨_, rfl⟩
        rw [hc] at ek hx HSTk
        clear hc hcells hR hB HLk hbl hbb
        subst ha
        go_wp2_with fail
        refine ⟨⟨k + 1, by omega, by simp, ?_, (HBk.out.setCell (p := ⟨b3, 6 + k, none⟩) (Nat.le_refl _) _).setCell (p := ⟨b3, 5, none⟩) (Nat.le_refl _) _⟩, by simp [intOf]; omega⟩
        rw [← HSTk.out]
        exact (HRk.out.set (6 + k) (.int .u8 (c : Int))).set 5 (.int .u8 ((k + 1 : Nat) : Int))
    · obtain rfl : k = n := by omega
      have hdk : decide (k < k) = false := by simp
      rw [HTL.out] at HRk
      have HR4 := Lib.hid ((HZ2.out.below HL1.out HBk.out))
      have HB4 := Lib.hid (HB2.out.trans (HBk.out.mono HB3.out))
      clear hlt hR hB hk
      go_wp2_with (first
        | refine wpList_load_row rfl 87 (.tmp 3) rfl b3 rfl 87 (tbA ⟨h, ld, ps⟩) (0, 0) _ HRk.out Tryd.underlying87 rfl (by rw [show (tbA ⟨h, ld, ps⟩).size = 10 from rfl]; exact size_ct) ?_
        | refine wpList_store_row rfl 87 (.tmp 2) (.tmp 28) rfl (b0 + 1) (tbA ⟨h, ld, ps⟩) rfl rfl 87 _ HR4.out (by rw [show (tbA ⟨h, ld, ps⟩).size = 10 from rfl]; exact size_ct) rfl (tbA_one _) ?_)
      refine bodyPost_ret (v := .agg (tbA ⟨h, ld, ps⟩)) (results_cell1 Tryd.results44 _ _ (b0 + 1) _ (tbA ⟨h, ld, ps⟩) (0, 0) _ rfl (setRow_heap _ _ _ _ _ _ HR4.out) Tryd.underlying87 rfl (by rw [show (tbA ⟨h, ld, ps⟩).size = 10 from rfl]; exact size_ct)) rfl ⟨rfl, below_setRow HB4.out (by have := HB0.out; omega) _⟩
theorem cl_first (m : Nat) (hm : W64 m) (h0 : m ≠ 0) (w : World) (hT : Tab w) : Calls Tryd.prog 50 #[.int .u64 (m : Int)] w fun e w' => e = .returned (.int .u8 ((Lib.ctz 64 m : Nat) : Int)) ∧ w = w' := by
  obtain ⟨-, -, hk⟩ := ctz_spec m h0 hm
  have HZ := Lib.hid (bits_tz m hm h0 w hT)
  generalize Lib.ctz 64 m = k at *
  have hw : IntKind.u8.wrap (k : Int) = (k : Int) := by rw [IntKind.wrap_u8]; omega
  go_enter Tryd.func50, Tryd.ntmps50
  go_wp2_with (go_at_call 73; refine HZ.out.mono ?_; rintro e w' ⟨rfl, rfl⟩)
  go_ret
  exact ⟨rfl, rfl⟩
/-- the next mask of a loop over cards -/
theorem drop_run (x : Nat) (hx : W64 x) (h0 : x ≠ 0) : bits BinOp.and IntKind.u64 (x : Int) (IntKind.u64.wrap ((x : Int) - 1)) = ((drop1 x : Nat) : Int) := by
  have e : IntKind.u64.wrap ((x : Int) - 1) = ((x - 1 : Nat) : Int) := by
    unfold W64 at hx; rw [IntKind.wrap_u64]; omega
  rw [e, bits_and_nat x _ hx (by unfold W64 at *; omega)]; rfl
theorem drop1_w64 {x : Nat} (hx : W64 x) (h0 : x ≠ 0) : W64 (drop1 x) := Nat.lt_of_lt_of_le (drop1_lt x h0) (Nat.le_of_lt hx)
end Go.Proofs.YtnbillhodbcfbaaDoor

/- Tables of package claim over this seat's program: can, put. -/
namespace Go.Proofs.YtnbillhodbcfbaaDoor
open Go.RowKit Go.Sort Go.Shelf

set_option maxHeartbeats 1000000 in
theorem cl_can (t : Tb) (h : TbOk t) (w : World) : Calls Tryd.prog 48 #[.agg (tbA t)] w fun e w' => e = .returned (.int .u64 ((canM t : Nat) : Int)) ∧ Below w.heap.size w w' := by
  have h2 := h.pk.2
  have htl := t.turn_lt
  have hti : (t.turn : Int) < 4 := by omega
  have HK := Lib.hid h
  have HR := Lib.hid (Row.new w 87 (tbA t))
  have HB := Lib.hid ((Below.refl w.heap.size w).alloc (Nat.le_refl _) (.cells (tbA t) 87))
  go_enter Tryd.func48, Tryd.ntmps48
  go_wp2_with fail
  refine (cl_turn t HK.out _).mono ?_
  rintro e w1 ⟨rfl, hb1⟩
  have HB1 := Lib.hid (HB.out.trans (hb1.mono HB.out.size))
  have HR1 := Lib.hid (HR.out.later hb1)
  have ch := (HR1.out.cell t.turn).trans (tbA_h t _ htl)
  have cl := HR1.out.cell 5
  have c0 := HR1.out.cell 6
  simp only [List.getElem?_toArray, List.getElem?_cons_zero, List.getElem?_cons_succ] at cl c0
  have HCM : Hid (∀ m, t.h t.turn = m → canM t = if t.cs.length = 0 then m else if land m (suitM (t.cs.getD 0 0 / 13)) = 0 then m else land m (suitM (t.cs.getD 0 0 / 13))) := Lib.hid (by rintro m rfl; rfl)
  have hmw := HK.out.w64 t.turn
  have hc52 := HK.out.getD 0
  clear hb1 HR HB
  obtain ⟨m, hm⟩ : ∃ m, t.h t.turn = m := ⟨_, rfl⟩
  have HCM := Lib.hid (HCM.out m hm)
  rw [hm] at ch hmw
  clear hm
  obtain ⟨c, hc⟩ : ∃ c, t.cs.getD 0 0 = c := ⟨_, rfl⟩
  rw [hc] at c0 HCM hc52
  clear hc
  obtain ⟨n, hn⟩ : ∃ n, t.cs.length = n := ⟨_, rfl⟩
  rw [hn] at cl HCM h2
  have hq : (c : Int) / 13 = ((c / 13 : Nat) : Int) := by omega
  have hq4 : c / 13 < 4 := by omega
  obtain ⟨q, hqq⟩ : ∃ q, c / 13 = q := ⟨_, rfl⟩
  have hq' : (c : Int) / 13 = (q : Int) := by omega
  rw [hqq] at hq4 HCM
  clear hq hqq
  rcases Nat.eq_zero_or_pos n with h0 | h0
  · subst h0
    rw [if_pos rfl] at HCM
    simp only [show ((0 : Nat) : Int) = 0 from rfl] at cl
    go_wp2_with fail
    go_ret
    exact ⟨by rw [HCM.out]; rfl, HB1.out⟩
  · have hd : decide ((0 : Int) < (n : Int)) = true := by simp; omega
    rw [if_neg (by omega)] at HCM
    obtain ⟨m2, hm2⟩ : ∃ m2, land m (suitM q) = m2 := ⟨_, rfl⟩
    have hand : Op.intBits .and .u64 (m : Int) ((suitM q : Nat) : Int) = pure (.int .u64 (m2 : Int)) := by rw [← hm2]; exact run_and64 m (suitM q) hmw (suitM_w64 hq4)
    rw [hm2] at HCM
    clear hm2
    rcases (show q = 0 ∨ q = 1 ∨ q = 2 ∨ q = 3 by omega) with rfl | rfl | rfl | rfl
    · rw [show ((suitM 0 : Nat) : Int) = 8191 from rfl] at hand
      simp only [show ((0 : Nat) : Int) = 0 from rfl] at hq'
      by_cases hz : m2 = 0
      · rw [if_pos hz] at HCM
        have hz2 : ((m2 : Int) != 0) = false := by simp; omega
        clear hz
        go_wp2_with fail
        go_ret
        exact ⟨by rw [HCM.out]; rfl, HB1.out⟩
      · rw [if_neg hz] at HCM
        have hz2 : ((m2 : Int) != 0) = true := by rw [bne_iff_ne]; omega
        clear hz
        go_wp2_with fail
        go_ret
        exact ⟨by rw [HCM.out]; rfl, HB1.out⟩
    · rw [show ((suitM 1 : Nat) : Int) = 67100672 from rfl] at hand
      simp only [show ((1 : Nat) : Int) = 1 from rfl] at hq'
      by_cases hz : m2 = 0
      · rw [if_pos hz] at HCM
        have hz2 : ((m2 : Int) != 0) = false := by simp; omega
        clear hz
        go_wp2_with fail
        go_ret
        exact ⟨by rw [HCM.out]; rfl, HB1.out⟩
      · rw [if_neg hz] at HCM
        have hz2 : ((m2 : Int) != 0) = true := by rw [bne_iff_ne]; omega
        clear hz
        go_wp2_with fail
        go_ret
        exact ⟨by rw [HCM.out]; rfl, HB1.out⟩
    · rw [show ((suitM 2 : Nat) : Int) = 549688705024 from rfl] at hand
      simp only [show ((2 : Nat) : Int) = 2 from rfl] at hq'
      by_cases hz : m2 = 0
      · rw [if_pos hz] at HCM
        have hz2 : ((m2 : Int) != 0) = false := by simp; omega
        clear hz
        go_wp2_with fail
        go_ret
        exact ⟨by rw [HCM.out]; rfl, HB1.out⟩
      · rw [if_neg hz] at HCM
        have hz2 : ((m2 : Int) != 0) = true := by rw [bne_iff_ne]; omega
        clear hz
        go_wp2_with fail
        go_ret
        exact ⟨by rw [HCM.out]; rfl, HB1.out⟩
    · rw [show ((suitM 3 : Nat) : Int) = 4503049871556608 from rfl] at hand
      simp only [show ((3 : Nat) : Int) = 3 from rfl] at hq'
      by_cases hz : m2 = 0
      · rw [if_pos hz] at HCM
        have hz2 : ((m2 : Int) != 0) = false := by simp; omega
        clear hz
        go_wp2_with fail
        go_ret
        exact ⟨by rw [HCM.out]; rfl, HB1.out⟩
      · rw [if_neg hz] at HCM
        have hz2 : ((m2 : Int) != 0) = true := by rw [bne_iff_ne]; omega
        clear hz
        go_wp2_with fail
        go_ret
        exact ⟨by rw [HCM.out]; rfl, HB1.out⟩
set_option maxHeartbeats 2000000 in
set_option maxRecDepth 10000 in
theorem cl_put (t : Tb) (h : TbOk t) (tr sd c : Nat) (hc : c < 52) (htr : tr < 256) (w : World) : Calls Tryd.prog 52 #[.agg (tbA t), .int .u8 (c : Int), .int .u8 (tr : Int), .int .u8 (sd : Int)] w fun e w' =>
    e = .returned (.tuple #[.agg (tbA (t.put tr c).1), .int .i64 ((wonS sd tr t c : Nat) : Int)]) ∧ Below w.heap.size w w' := by
  have h2 := h.pk.2
  have htl := t.turn_lt
  have hti : (t.turn : Int) < 4 := by omega
  have HK := Lib.hid h
  have HR0 := Lib.hid ((Row.new w 87 (tbA t)).alloc (.cells zeroT 87))
  have HZ0 := Lib.hid (Row.new1 w (.cells (tbA t) 87) 87 zeroT)
  have HB0 : Hid (Below w.heap.size w ((w.alloc (.cells (tbA t) 87)).alloc (.cells zeroT 87))) := Lib.hid (((Below.refl _ _).alloc (Nat.le_refl _) _).alloc (by simp) _)
  go_enter Tryd.func52, Tryd.ntmps52
  go_wp2_with fail
  refine (cl_turn t HK.out _).mono ?_
  rintro e w1 ⟨rfl, hb1⟩
  have HB1 := Lib.hid (HB0.out.trans (hb1.mono HB0.out.size))
  have HR1 := Lib.hid (HR0.out.later hb1)
  have HZ1 := Lib.hid (HZ0.out.later hb1)
  clear hb1 HR0 HZ0 HB0
  have ch := (HR1.out.cell t.turn).trans (tbA_h t _ htl)
  have hf1 := HR1.out.frozen t.turn
  have hmw := HK.out.w64 t.turn
  have hrs := run_shl64 c .u8
  have hand := run_andn64 (t.h t.turn) (shl1 c) hmw (W64.shl1 c)
  have hld := HK.out.ld
  have HP := Lib.hid (tbA_put t c h2 htl)
  obtain ⟨b0, hb0⟩ : ∃ b, w.heap.size = b := ⟨_, rfl⟩
  have HB0 := Lib.hid hb0
  rw [hb0] at HR1 HZ1 ch hf1 ⊢
  clear hb0
  go_upto_region 2 with fail
  have hr2 := HR1.out.set t.turn (.int .u64 ((landn (t.h t.turn) (shl1 c) : Nat) : Int))
  have hz2 := HZ1.out.other (i := t.turn) (v := .int .u64 ((landn (t.h t.turn) (shl1 c) : Nat) : Int)) (show b0 + 1 ≠ b0 by omega)
  have hb2 := HB1.out.setCell (p := ⟨b0, t.turn, none⟩) (by rw [HB0.out]; exact Nat.le_refl _) (.int .u64 ((landn (t.h t.turn) (shl1 c) : Nat) : Int))
  have HR2 := Lib.hid hr2
  have HZ2 := Lib.hid hz2
  have HB2 := Lib.hid hb2
  clear hr2 hz2 hb2 ch hf1 hrs hand
  generalize w1.setCell ⟨b0, t.turn, none⟩ (.int .u64 ((landn (t.h t.turn) (shl1 c) : Nat) : Int)) = W2 at *
  have c5 : W2.cell? ⟨b0, 5, none⟩ = some (.int .u8 (t.cs.length : Int)) := (HR2.out.cell 5).trans (by rw [Array.getElem?_setIfInBounds, if_neg (by omega)]; rfl)
  have c6 : ∃ v, W2.cell? ⟨b0, 6 + t.cs.length, none⟩ = some v := ⟨_, (HR2.out.cell _).trans (by rw [Array.getElem?_setIfInBounds, if_neg (by omega)]; exact tbA_c t _ h2)⟩
  obtain ⟨v6, c6⟩ := c6
  have f6 := HR2.out.frozen (6 + t.cs.length)
  have f5 := HR2.out.frozen 5
  have hni : (t.cs.length : Int) < 4 := by omega
  have hne : ¬ (5 = 6 + t.cs.length) := by omega
  have hne' : ¬ (6 + t.cs.length = 5) := by omega
  obtain ⟨n, hn⟩ : ∃ n, t.cs.length = n := ⟨_, rfl⟩
  have HN := Lib.hid hn
  rw [hn] at c5 c6 f6 h2 hni hne hne'
  clear hn
  go_upto_region 4 with fail
  have hr4 : Row ((W2.setCell ⟨b0, 6 + n, none⟩ (.int .u8 (c : Int))).setCell ⟨b0, 5, none⟩ (.int .u8 ((n : Int) + 1))) b0 87 (tbA (t.push c)) := by
    have := (HR2.out.set (6 + n) (.int .u8 (c : Int))).set 5 (.int .u8 ((n : Int) + 1))
    have e := HP.out
    rw [HN.out] at e
    rw [← e]
    exact this
  have hz4 := (HZ2.out.other (i := 6 + n) (v := .int .u8 (c : Int)) (show b0 + 1 ≠ b0 by omega)).other (i := 5) (v := .int .u8 ((n : Int) + 1)) (show b0 + 1 ≠ b0 by omega)
  have hb4 := (HB2.out.setCell (p := ⟨b0, 6 + n, none⟩) (by rw [HB0.out]; exact Nat.le_refl _) (.int .u8 (c : Int))).setCell (p := ⟨b0, 5, none⟩) (by rw [HB0.out]; exact Nat.le_refl _) (.int .u8 ((n : Int) + 1))
  have HR4 := Lib.hid hr4
  have HZ4 := Lib.hid hz4
  have HB4 := Lib.hid hb4
  clear hr4 hz4 hb4 c5 c6 f6 f5 hne hne' HP HR2 HZ2 HB2 HR1 HZ1
  generalize (W2.setCell ⟨b0, 6 + n, none⟩ (.int .u8 (c : Int))).setCell ⟨b0, 5, none⟩ (.int .u8 ((n : Int) + 1)) = W4 at *
  have HL : Hid ((t.push c).cs.length = n + 1) := Lib.hid (by show (t.cs ++ [c]).length = _; rw [← HN.out]; simp)
  have HX : Hid (∀ i, (t.push c).cs.getD i 0 < 52) := Lib.hid fun i => by
    show (t.cs ++ [c]).getD i 0 < 52
    rw [List.getD_eq_getElem?_getD]
    rcases e : (t.cs ++ [c])[i]? with _ | x
    · exact (by decide : (0 : Nat) < 52)
    · rcases List.mem_append.1 (List.mem_of_getElem? e) with hx | hx
      · exact HK.out.c52 x hx
      · rcases List.mem_singleton.1 hx with rfl; exact hc
  have HLD : Hid ((t.push c).ld < 4) := Lib.hid hld
  have HPUT : Hid (t.put tr c = (t.push c).settle tr) := Lib.hid rfl
  have HWO : Hid (wonS sd tr t c = if n < 3 then 0 else if (t.push c).win tr % 2 = sd then 1 else 0) := Lib.hid (by unfold wonS; rw [HN.out])
  obtain ⟨u, hu⟩ : ∃ u, t.push c = u := ⟨_, rfl⟩
  rw [hu] at HR4 HL HX HLD HPUT HWO
  have c5 : W4.cell? ⟨b0, 5, none⟩ = some (.int .u8 ((n + 1 : Nat) : Int)) := (HR4.out.cell 5).trans (by rw [← HL.out]; rfl)
  clear hu hld hmw HN HK htl hti
  by_cases h3 : n + 1 < 4
  · have hd : decide (((n + 1 : Nat) : Int) < 4) = true := by simp; omega
    have HS : Hid (u.settle tr = (u, 0)) := Lib.hid (by unfold Tb.settle; rw [if_pos (by have := HL.out; omega)])
    obtain ⟨UA, hUA⟩ : ∃ A, tbA u = A := ⟨_, rfl⟩
    have HU : Hid (UA.size = 10 ∧ UA.all (·.oneCell') = true) := Lib.hid (by rw [← hUA]; exact ⟨rfl, tbA_one u⟩)
    have HUA := Lib.hid hUA
    rw [hUA] at HR4
    clear hUA
    go_wp2_with (first
      | refine wpList_load_row rfl 87 (.tmp 4) rfl b0 rfl 87 UA (0, 0) _ HR4.out Tryd.underlying87 rfl (by rw [HU.out.1]; exact size_ct) ?_
      | refine wpList_store_row rfl 87 (.tmp 8) (.tmp 34) rfl (b0 + 1) UA rfl rfl 87 _ HZ4.out (by rw [HU.out.1]; exact size_ct) (by rw [HU.out.1]; rfl) HU.out.2 ?_)
    refine bodyPost_ret (v := .tuple #[.agg UA, .int .i64 0]) (results_two Tryd.results52 _ _ (b0 + 1) _ UA (0, 0) _ rfl (setRow_heap _ _ _ _ _ _ HZ4.out) Tryd.underlying87 rfl (by rw [HU.out.1]; exact size_ct)) rfl ⟨by rw [HPUT.out, HS.out, HUA.out, HWO.out, if_pos (by omega)]; rfl, below_setRow HB4.out (by have := HB0.out; omega) _⟩
  · have hd : decide (((n + 1 : Nat) : Int) < 4) = false := by simp; omega
    have HS : Hid (u.settle tr = (⟨u.h, u.win tr, []⟩, 1 - u.win tr % 2)) := Lib.hid (by unfold Tb.settle; rw [if_neg (by have := HL.out; omega)])
    have HC : Hid (∀ k, k < 4 → W4.cell? ⟨b0, 6 + k, none⟩ = some (.int .u8 (u.cs.getD k 0 : Int))) := Lib.hid fun k hk => (HR4.out.cell (6 + k)).trans (tbA_c u k hk)
    have hsz : W4.heap.size = W4.heap.size := rfl
    go_wp2_with fail
    clear c5 hd
    go_loopw [10, 11] (fun bv i wr => ∃ (k : Nat), 1 ≤ k ∧ k ≤ 4 ∧ i = .int .u8 (k : Int) ∧ bv = .int .u8 ((bestTo tr (fun i => u.cs.getD i 0) (k - 1) : Nat) : Int) ∧ Below W4.heap.size W4 wr) (fun _ i _ => 4 - (intOf i).toNat)
    case atStart => exact ⟨1, by omega, by omega, rfl, rfl, Below.refl _ _⟩
    case round =>
      obtain ⟨k, hk1, hk, rfl, rfl, hB⟩ := hrel
      by_cases hlt : k < 4
      · have hdk : decide ((k : Int) < 4) = true := by simp; omega
        have hki : (k : Int) < 4 := by omega
        have HBk := Lib.hid hB
        have hble := bestTo_le tr (fun i => u.cs.getD i 0) (k - 1)
        have HST : Hid (bestTo tr (fun i => u.cs.getD i 0) k = if beatsB tr (u.cs.getD k 0) (u.cs.getD (bestTo tr (fun i => u.cs.getD i 0) (k - 1)) 0) then k else bestTo tr (fun i => u.cs.getD i 0) (k - 1)) := Lib.hid (by
          obtain ⟨j, rfl⟩ : ∃ j, k = j + 1 := ⟨k - 1, by omega⟩
          rfl)
        obtain ⟨b, hb⟩ : ∃ b, bestTo tr (fun i => u.cs.getD i 0) (k - 1) = b := ⟨_, rfl⟩
        rw [hb] at HST hble ⊢
        have hbi : (b : Int) < 4 := by omega
        have e0 := (hB.cell (p := ⟨b0, 6 + k, none⟩) HR4.out.lt).trans (HC.out k hlt)
        have e1 := (hB.cell (p := ⟨b0, 6 + b, none⟩) HR4.out.lt).trans (HC.out b (by omega))
        have hx := HX.out k
        have hy := HX.out b
        obtain ⟨x, hxx⟩ : ∃ x, u.cs.getD k 0 = x := ⟨_, rfl⟩
        obtain ⟨y, hyy⟩ : ∃ y, u.cs.getD b 0 = y := ⟨_, rfl⟩
        rw [hxx] at e0 hx HST
        rw [hyy] at e1 hy HST
        clear hxx hyy hb hB
        have f0 := fun dd os => cell_regrown e0 dd os
        have f1 := fun dd os => cell_regrown e1 dd os
        go_wp2_with fail
        refine wp_region_quiet_below (by kernel_rfl) (by kernel_rfl) ?_
        repeat (first | go_big_quiet_step (fail) | quiet_step (with_reducible exact Calls.regrown_of (cl_beatsB tr x y htr (by omega) (by omega) _)))
        refine wpQuiet_nil ?_
        rintro _ ⟨q, rfl⟩
        have HB5 := Lib.hid (HBk.out.trans ((below_regrown wr q.d q.os).mono HBk.out.size))
        generalize grow (redrawn wr q.d) q.os = wa at *
        clear e0 e1 f0 f1
        cases hbt : beatsB tr x y
        · have HE : Hid (bestTo tr (fun i => u.cs.getD i 0) k = b) := Lib.hid (by rw [HST.out, hbt]; rfl)
          clear HST
          go_wp2_with fail
          exact ⟨⟨k + 1, by omega, by omega, by simp, by rw [show k + 1 - 1 = k by omega, HE.out], HB5.out⟩, by simp [intOf]; omega⟩
        · have HE : Hid (bestTo tr (fun i => u.cs.getD i 0) k = k) := Lib.hid (by rw [HST.out, hbt]; rfl)
          clear HST
          go_wp2_with fail
          exact ⟨⟨k + 1, by omega, by omega, by simp, by rw [show k + 1 - 1 = k by omega, HE.out], HB5.out⟩, by simp [intOf]; omega⟩
      · obtain rfl : k = 4 := by omega
        simp only [show ((4 : Nat) : Int) = 4 from rfl, show 4 - 1 = 3 from rfl]
        have hble := bestTo_le tr (fun i => u.cs.getD i 0) 3
        have HWN : Hid (u.win tr = (u.ld + bestTo tr (fun i => u.cs.getD i 0) 3) % 4) := Lib.hid rfl
        generalize bestTo tr (fun i => u.cs.getD i 0) 3 = b at *
        have HR5 := Lib.hid (HR4.out.later hB)
        have HZ5 := Lib.hid (HZ4.out.later hB)
        have HB5 := Lib.hid (HB4.out.trans (hB.mono HB4.out.size))
        clear hB
        have d4 := HR5.out.cell 4
        have d5 := HR5.out.cell 5
        have d6 := HR5.out.cell 6
        have d7 := HR5.out.cell 7
        have d8 := HR5.out.cell 8
        have d9 := HR5.out.cell 9
        simp only [List.getElem?_toArray, List.getElem?_cons_zero, List.getElem?_cons_succ] at d4 d5 d6 d7 d8 d9
        have f4 := HR5.out.frozen 4
        have f5 := HR5.out.frozen 5
        have f6 := HR5.out.frozen 6
        have f7 := HR5.out.frozen 7
        have f8 := HR5.out.frozen 8
        have f9 := HR5.out.frozen 9
        have hl4 := HLD.out
        have hwn : ((u.ld : Int) + (b : Int)) % 4 = ((u.win tr : Nat) : Int) := by rw [HWN.out]; omega
        have hw4 : u.win tr < 4 := by rw [HWN.out]; omega
        obtain ⟨wn, hwne⟩ : ∃ x, u.win tr = x := ⟨_, rfl⟩
        have HWNE := Lib.hid hwne
        rw [hwne] at hwn hw4 HS
        clear hwne
        go_upto_region 13 with fail
        have hr6 : Row ((((((wr.setCell ⟨b0, 4, none⟩ (.int .u8 (wn : Int))).setCell ⟨b0, 5, none⟩ (.int .u8 0)).setCell ⟨b0, 6, none⟩ (.int .u8 0)).setCell ⟨b0, 7, none⟩ (.int .u8 0)).setCell ⟨b0, 8, none⟩ (.int .u8 0)).setCell ⟨b0, 9, none⟩ (.int .u8 0)) b0 87 (tbA ⟨u.h, wn, []⟩) :=
          (((((HR5.out.set 4 (.int .u8 (wn : Int))).set 5 (.int .u8 0)).set 6 (.int .u8 0)).set 7 (.int .u8 0)).set 8 (.int .u8 0)).set 9 (.int .u8 0)
        have hz6 := (((((HZ5.out.other (i := 4) (v := .int .u8 (wn : Int)) (show b0 + 1 ≠ b0 by omega)).other (i := 5) (v := .int .u8 0) (show b0 + 1 ≠ b0 by omega)).other (i := 6) (v := .int .u8 0) (show b0 + 1 ≠ b0 by omega)).other (i := 7) (v := .int .u8 0) (show b0 + 1 ≠ b0 by omega)).other (i := 8) (v := .int .u8 0) (show b0 + 1 ≠ b0 by omega)).other (i := 9) (v := .int .u8 0) (show b0 + 1 ≠ b0 by omega)
        have hle : w.heap.size ≤ b0 := by rw [HB0.out]; exact Nat.le_refl _
        have hb6 := (((((HB5.out.setCell (p := ⟨b0, 4, none⟩) hle (.int .u8 (wn : Int))).setCell (p := ⟨b0, 5, none⟩) hle (.int .u8 0)).setCell (p := ⟨b0, 6, none⟩) hle (.int .u8 0)).setCell (p := ⟨b0, 7, none⟩) hle (.int .u8 0)).setCell (p := ⟨b0, 8, none⟩) hle (.int .u8 0)).setCell (p := ⟨b0, 9, none⟩) hle (.int .u8 0)
        have HR6 := Lib.hid hr6
        have HZ6 := Lib.hid hz6
        have HB6 := Lib.hid hb6
        clear hr6 hz6 hb6 d4 d5 d6 d7 d8 d9 f4 f5 f6 f7 f8 f9 HR5 HZ5 HB5
        generalize (((((wr.setCell ⟨b0, 4, none⟩ (.int .u8 (wn : Int))).setCell ⟨b0, 5, none⟩ (.int .u8 0)).setCell ⟨b0, 6, none⟩ (.int .u8 0)).setCell ⟨b0, 7, none⟩ (.int .u8 0)).setCell ⟨b0, 8, none⟩ (.int .u8 0)).setCell ⟨b0, 9, none⟩ (.int .u8 0) = W6 at *
        obtain ⟨VA, hVA⟩ : ∃ A, tbA ⟨u.h, wn, []⟩ = A := ⟨_, rfl⟩
        have HV : Hid (VA.size = 10 ∧ VA.all (·.oneCell') = true ∧ VA[4]? = some (.int .u8 (wn : Int))) := Lib.hid (by rw [← hVA]; exact ⟨rfl, tbA_one _, rfl⟩)
        have HVA := Lib.hid hVA
        rw [hVA] at HR6
        clear hVA hwn hl4 hble
        have hm2 : (wn : Int) % 2 = ((wn % 2 : Nat) : Int) := by omega
        have HWO2 : Hid (wonS sd tr t c = if wn % 2 = sd then 1 else 0) := Lib.hid (by rw [HWO.out, if_neg (by omega), HWNE.out])
        have hle2 : w.heap.size ≤ b0 + 1 := by omega
        have e4 : W6.cell? ⟨b0, 4, none⟩ = some (.int .u8 (wn : Int)) := (HR6.out.cell 4).trans HV.out.2.2
        obtain ⟨r2, hr2⟩ : ∃ r, wn % 2 = r := ⟨_, rfl⟩
        rw [hr2] at hm2 HWO2
        clear hr2
        by_cases hs : r2 = sd
        · have hsI : ((r2 : Int) == (sd : Int)) = true := by rw [beq_iff_eq, hs]
          rw [if_pos hs] at HWO2
          clear hs
          go_upto_region 14 with fail
          have hr6 := HR6.out
          go_wp2_with (first
            | refine wpList_load_row rfl 87 (.tmp 4) rfl b0 rfl 87 VA (0, 0) _ hr6 Tryd.underlying87 rfl (by rw [HV.out.1]; exact size_ct) ?_
            | refine wpList_store_row rfl 87 (.tmp 8) (.tmp 64) rfl (b0 + 1) VA rfl rfl 87 _ HZ6.out (by rw [HV.out.1]; exact size_ct) (by rw [HV.out.1]; rfl) HV.out.2.1 ?_)
          refine bodyPost_ret (v := .tuple #[.agg VA, .int .i64 1]) (results_two Tryd.results52 _ _ (b0 + 1) _ VA (0, 0) _ rfl (setRow_heap _ _ _ _ _ _ HZ6.out) Tryd.underlying87 rfl (by rw [HV.out.1]; exact size_ct)) rfl ⟨by rw [HPUT.out, HS.out, HVA.out, HWO2.out]; rfl, below_setRow HB6.out hle2 _⟩
        · have hsI : ((r2 : Int) == (sd : Int)) = false := by rw [beq_eq_false_iff_ne]; omega
          rw [if_neg hs] at HWO2
          clear hs
          go_upto_region 15 with fail
          have hr6 := HR6.out
          go_wp2_with (first
            | refine wpList_load_row rfl 87 (.tmp 4) rfl b0 rfl 87 VA (0, 0) _ hr6 Tryd.underlying87 rfl (by rw [HV.out.1]; exact size_ct) ?_
            | refine wpList_store_row rfl 87 (.tmp 8) (.tmp 65) rfl (b0 + 1) VA rfl rfl 87 _ HZ6.out (by rw [HV.out.1]; exact size_ct) (by rw [HV.out.1]; rfl) HV.out.2.1 ?_)
          refine bodyPost_ret (v := .tuple #[.agg VA, .int .i64 0]) (results_two Tryd.results52 _ _ (b0 + 1) _ VA (0, 0) _ rfl (setRow_heap _ _ _ _ _ _ HZ6.out) Tryd.underlying87 rfl (by rw [HV.out.1]; exact size_ct)) rfl ⟨by rw [HPUT.out, HS.out, HVA.out, HWO2.out]; rfl, below_setRow HB6.out hle2 _⟩
end Go.Proofs.YtnbillhodbcfbaaDoor
