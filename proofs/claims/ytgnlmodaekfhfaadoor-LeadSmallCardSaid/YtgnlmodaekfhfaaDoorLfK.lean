/- The reference of chapter 14: New. -/
import Derived.Test.YtgnlmodaekfhfaaDoorMLfe
import Derived.Test.YtgnlmodaekfhfaaDoorMLdx
namespace Go.Proofs.YtgnlmodaekfhfaaDoor
open Go.RowKit Go.Shelf Go.Sort

attribute [-go_sem] run_equalIn_agg run_neq_struct Instr.build
/-- how many of the first k hands have a card -/
def holdC (h : Nat → Nat) (c : Nat) : Nat → Nat
  | 0 => 0
  | k + 1 => holdC h c k + (if (h k).testBit c then 1 else 0)
def badC (h : Nat → Nat) (c : Nat) : Bool := decide (1 < holdC h c 4) || (decide (0 < holdC h c 4) && decide (52 ≤ c))
theorem holdC_le (h : Nat → Nat) (c : Nat) : ∀ k, holdC h c k ≤ k
  | 0 => Nat.le_refl _
  | k + 1 => by have := holdC_le h c k; unfold holdC; split <;> omega
theorem holdC_pos (h : Nat → Nat) (c : Nat) : ∀ k, 0 < holdC h c k ↔ ∃ s, s < k ∧ (h s).testBit c = true
  | 0 => ⟨fun h => by simp [holdC] at h, fun ⟨s, hs, _⟩ => by omega⟩
  | k + 1 => by
    have ih := holdC_pos h c k
    unfold holdC
    constructor
    · intro hp
      by_cases hb : (h k).testBit c = true
      · exact ⟨k, by omega, hb⟩
      · rw [if_neg hb, Nat.add_zero, ih] at hp
        obtain ⟨s, hs, hx⟩ := hp
        exact ⟨s, by omega, hx⟩
    · rintro ⟨s, hs, hx⟩
      by_cases e : s = k
      · subst e; rw [if_pos hx]; omega
      · have := ih.2 ⟨s, by omega, hx⟩; omega
theorem holdC_two (h : Nat → Nat) (c : Nat) : ∀ k, 1 < holdC h c k ↔ ∃ s s', s < s' ∧ s' < k ∧ (h s).testBit c = true ∧ (h s').testBit c = true
  | 0 => ⟨fun h => by simp [holdC] at h, fun ⟨s, s', _, hs, _⟩ => by omega⟩
  | k + 1 => by
    have ih := holdC_two h c k
    have ip := holdC_pos h c k
    unfold holdC
    constructor
    · intro hp
      by_cases hb : (h k).testBit c = true
      · rw [if_pos hb] at hp
        obtain ⟨s, hs, hx⟩ := ip.1 (by omega)
        exact ⟨s, k, hs, by omega, hx, hb⟩
      · rw [if_neg hb, Nat.add_zero, ih] at hp
        obtain ⟨s, s', h1, h2, h3⟩ := hp
        exact ⟨s, s', h1, by omega, h3⟩
    · rintro ⟨s, s', h1, h2, h3, h4⟩
      by_cases e : s' = k
      · subst e; rw [if_pos h4]; have := ip.2 ⟨s, h1, h3⟩; omega
      · have := ih.2 ⟨s, s', h1, by omega, h3, h4⟩; omega
/-- a deal with a card in two hands, or beyond the pack -/
theorem new_bad {d : Nat → Nat} {c : Nat} (h : badC d c = true) (tm dc : Nat) : newOk d tm dc = false := by
  cases hn : newOk d tm dc
  · rfl
  · exfalso
    unfold newOk at hn
    rw [Bool.and_eq_true] at hn
    have hd := dealt_deal hn.1
    unfold badC at h
    rw [Bool.or_eq_true, Bool.and_eq_true, decide_eq_true_eq, decide_eq_true_eq, decide_eq_true_eq] at h
    rcases h with h | ⟨h1, h2⟩
    · obtain ⟨s, s', a, b, x, y⟩ := (holdC_two d c 4).1 h
      have := hd.apart s s' c (by omega) b (by omega) x
      rw [y] at this; cases this
    · obtain ⟨s, hs, x⟩ := (holdC_pos d c 4).1 h1
      have := y_bit_lt (n := 52) (hd.lt s hs) x
      omega
theorem new_ok {d : Nat → Nat} (hw : ∀ i, W64 (d i)) (hno : ∀ c, c < 64 → badC d c = false) (tm dc : Nat) :
    newOk d tm dc = !(((((pop (d 0) == 0 || pop (d 1) != pop (d 0)) || pop (d 2) != pop (d 0)) || pop (d 3) != pop (d 0)) || decide (4 < tm)) || decide (3 < dc)) := by
  have hb' : ∀ c, c < 64 → ¬ 1 < holdC d c 4 ∧ (0 < holdC d c 4 → c < 52) := fun c hc => by
    have := hno c hc
    unfold badC at this
    rw [Bool.or_eq_false_iff, decide_eq_false_iff_not, Bool.and_eq_false_iff, decide_eq_false_iff_not, decide_eq_false_iff_not] at this
    exact ⟨this.1, fun hp => by rcases this.2 with h | h; exact (h hp).elim; omega⟩
  have hlt : ∀ s c, (d s).testBit c = true → c < 64 := fun s c hx => by
    rcases Nat.lt_or_ge c 64 with hc | hc
    · exact hc
    · rw [lf_big (hw s) hc] at hx; cases hx
  have h52 : ∀ s, s < 4 → d s < 4503599627370496 := fun s hs => lt_of_bits fun c hc => (hb' c (hlt s c hc)).2 ((holdC_pos d c 4).2 ⟨s, hs, hc⟩)
  have hap : ∀ k, k < 4 → land (allTo d k) (d k) = 0 := fun k hk => by
    apply Nat.eq_of_testBit_eq
    intro c
    rw [Nat.zero_testBit, testBit_land, Bool.and_eq_false_iff]
    cases hq : (d k).testBit c
    · exact .inr rfl
    · left
      cases hz : (allTo d k).testBit c
      · rfl
      · obtain ⟨j, hj, hjb⟩ := (allTo_bit d k c).1 hz
        exact ((hb' c (hlt k c hq)).1 ((holdC_two d c 4).2 ⟨j, k, hj, hk, hjb, hq⟩)).elim
  have hk : ∀ k, k < 4 → handOk d k = (pop (d k) == pop (d 0)) := fun k hk => by
    unfold handOk; rw [decide_eq_true (h52 k hk), hap k hk]; simp
  unfold newOk dealtV
  rw [hk 0 (by omega), hk 1 (by omega), hk 2 (by omega), hk 3 (by omega)]
  generalize pop (d 0) = p0
  generalize pop (d 1) = p1
  generalize pop (d 2) = p2
  generalize pop (d 3) = p3
  rw [Bool.eq_iff_iff]
  simp
  omega
/-- the numbers of cards -/
def arrI (f : Nat → Nat) : Array Value := #[.int .i64 (f 0 : Int), .int .i64 (f 1 : Int), .int .i64 (f 2 : Int), .int .i64 (f 3 : Int)]
theorem arrI_get (f : Nat → Nat) (k : Nat) (hk : k < 4) : (arrI f)[k]? = some (.int .i64 (f k : Int)) := by
  rcases (show k = 0 ∨ k = 1 ∨ k = 2 ∨ k = 3 by omega) with rfl | rfl | rfl | rfl <;> rfl
theorem arrI_set (f g : Nat → Nat) (k v : Nat) (hk : k < 4) (h : ∀ j, j < 4 → g j = if j = k then v else f j) : (arrI f).setIfInBounds k (.int .i64 (v : Int)) = arrI g := by
  unfold arrI
  rw [h 0 (by omega), h 1 (by omega), h 2 (by omega), h 3 (by omega)]
  rcases (show k = 0 ∨ k = 1 ∨ k = 2 ∨ k = 3 by omega) with rfl | rfl | rfl | rfl <;> simp
theorem arrI_eq {f g : Nat → Nat} (h : ∀ j, j < 4 → g j = f j) : arrI f = arrI g := by
  unfold arrI; rw [h 0 (by omega), h 1 (by omega), h 2 (by omega), h 3 (by omega)]
/-- the numbers on the way: the first s hands have been asked for card k -/
def nAt (d : Nat → Nat) (k s j : Nat) : Nat := if j < s then cnt (d j) (k + 1) else cnt (d j) k
theorem nAt_le (d : Nat → Nat) (k s j : Nat) (hk : k < 64) : nAt d k s j ≤ 64 := by
  unfold nAt
  split
  · exact Nat.le_trans (cnt_le _ _) (by omega)
  · exact Nat.le_trans (cnt_le _ _) (by omega)
theorem nAt_step (d : Nat → Nat) (k s : Nat) {j : Nat} : nAt d k (s + 1) j = if j = s then nAt d k s s + (if (d s).testBit k then 1 else 0) else nAt d k s j := by
  have h1 : nAt d k s s = cnt (d s) k := if_neg (by omega)
  rw [h1]
  unfold nAt
  by_cases e : j = s
  · subst e
    rw [if_pos (by omega), if_pos rfl]
    show cnt (d j) k + _ = _
    cases (d j).testBit k <;> rfl
  · rw [if_neg e]
    by_cases hl : j < s
    · rw [if_pos (by omega), if_pos hl]
    · rw [if_neg (by omega), if_neg hl]
/-- New, as the document has it -/
def newV (d : Nat → Nat) (tm dc : Nat) : St × Nat := if newOk d tm dc then (St.new d tm dc, 0) else (St.zero, 140)
set_option maxHeartbeats 2000000 in
set_option maxRecDepth 10000 in
theorem lf_New (d : Nat → Nat) (hd : ∀ i, W64 (d i)) (tm dc : Nat) (htm : tm < 256) (hdc : dc < 256) {t : St} {er : Nat} (he : newV d tm dc = (t, er)) (w : World) :
    Calls Tryd.prog 36 #[.agg #[.int .u64 (d 0 : Int), .int .u64 (d 1 : Int), .int .u64 (d 2 : Int), .int .u64 (d 3 : Int)], .int .u8 (tm : Int), .int .u8 (dc : Int)] w fun e w' =>
      ∃ SB, (SB = t.cells ∧ e = .returned (.tuple #[.agg SB, .int .i64 (er : Int)])) ∧ Below w.heap.size w w' := by
  have HH := Lib.hid (fun s c W => lf_has (d s) c (hd s) W)
  have HBD := Lib.hid (fun c (h : badC d c = true) => new_bad h tm dc)
  have HOK := Lib.hid (fun (h : ∀ c, c < 64 → badC d c = false) => new_ok hd h tm dc)
  obtain ⟨DA, hDA⟩ : ∃ DA, DA = arr4 d := ⟨_, rfl⟩
  have HDC : Hid (∀ s, s < 4 → DA[s]? = some (.int .u64 (d s : Int))) := Lib.hid (by
    rw [hDA]
    intro s hs
    rcases (show s = 0 ∨ s = 1 ∨ s = 2 ∨ s = 3 by omega) with rfl | rfl | rfl | rfl <;> rfl)
  obtain ⟨ZA, hZA⟩ : ∃ Z, Z = zst := ⟨_, rfl⟩
  have HZ : Hid ((Tryd.prog.info? 80).map (·.size) = some ZA.size ∧ ZA.size = 24 ∧ ZA.all (·.oneCell') = true) := Lib.hid (by rw [hZA]; exact ⟨size_rst, rfl, one_cells St.zero⟩)
  have hbz : ∀ w, (Instr.build 80 #[]).run Tryd.prog w = .ok (.agg ZA) w := fun w => by rw [hZA]; exact run_build w 80 _ _ (by kernel_rfl)
  have HZA := Lib.hid hZA
  clear hZA
  have HDA := Lib.hid hDA
  have hda : #[.int .u64 (d 0 : Int), .int .u64 (d 1 : Int), .int .u64 (d 2 : Int), .int .u64 (d 3 : Int)] = DA := hDA.symm
  rw [hda]
  clear hda hDA
  obtain ⟨F, hF⟩ : ∃ F, newOk d tm dc = F := ⟨_, rfl⟩
  rw [hF] at HOK
  simp only [hF] at HBD
  unfold newV at he
  rw [hF] at he
  have HE0 : Hid (F = false → t = St.zero ∧ er = 140) := Lib.hid (fun h => by rw [h] at he; obtain ⟨rfl, rfl⟩ := Prod.mk.inj he; exact ⟨rfl, rfl⟩)
  have HE1 : Hid (F = true → t = St.new d tm dc ∧ er = 0) := Lib.hid (fun h => by rw [h] at he; obtain ⟨rfl, rfl⟩ := Prod.mk.inj he; exact ⟨rfl, rfl⟩)
  clear hF he
  have hB0 : Below w.heap.size w (((w.alloc (.cells DA 29)).alloc (.cells zst 80)).alloc (.cells (arrI fun _ => 0) 93)) :=
    (((Below.refl _ w).alloc (Nat.le_refl _) _).alloc (by rw [World.size_alloc]; omega) _).alloc (by rw [World.size_alloc, World.size_alloc]; omega) _
  have hD0 : Row (((w.alloc (.cells DA 29)).alloc (.cells zst 80)).alloc (.cells (arrI fun _ => 0) 93)) w.heap.size 29 DA := ((Row.new w _ _).alloc _).alloc _
  have hR0 : Row (((w.alloc (.cells DA 29)).alloc (.cells zst 80)).alloc (.cells (arrI fun _ => 0) 93)) (w.heap.size + 1) 80 zst := by
    have := (Row.new (w.alloc (.cells DA 29)) 80 zst).alloc (.cells (arrI fun _ => 0) 93)
    rwa [World.size_alloc] at this
  have hN0 : Row (((w.alloc (.cells DA 29)).alloc (.cells zst 80)).alloc (.cells (arrI fun _ => 0) 93)) (w.heap.size + 1 + 1) 93 (arrI fun _ => 0) := by
    have := Row.new ((w.alloc (.cells DA 29)).alloc (.cells zst 80)) 93 (arrI fun _ => 0)
    rwa [World.size_alloc, World.size_alloc] at this
  go_enter Tryd.func36, Tryd.ntmps36
  go_upto_region 2 with fail
  change Code.wp _ _ _ _ (((w.alloc (.cells DA 29)).alloc (.cells zst 80)).alloc (.cells (arrI fun _ => 0) 93))
  generalize ((w.alloc (.cells DA 29)).alloc (.cells zst 80)).alloc (.cells (arrI fun _ => 0) 93) = w1 at *
  obtain ⟨b0, hb0⟩ : ∃ b, w.heap.size = b := ⟨_, rfl⟩
  rw [hb0] at hD0 hR0 hN0 ⊢
  have hbw : w.heap.size ≤ b0 := Nat.le_of_eq hb0
  clear hb0
  go_wp2_with fail
  go_loopw [9, 10, 11] (fun c _ _ wr => ∃ k : Nat, k ≤ 64 ∧ c = .int .i64 (k : Int) ∧ (∀ c, c < k → badC d c = false) ∧ Row wr b0 29 DA ∧ Row wr (b0 + 1) 80 zst ∧ Row wr (b0 + 1 + 1) 93 (arrI fun j => cnt (d j) k) ∧ Below w.heap.size w wr) (fun c _ _ _ => 64 - (intOf c).toNat)
  case atStart => exact ⟨0, by omega, rfl, fun c h => by omega, hD0, hR0, hN0, hB0⟩
  case round =>
    obtain ⟨k, hk, rfl, hno, hd1, hr1, hn1, hB⟩ := hrel
    have HNO := Lib.hid hno
    clear hno hB0 hD0 hR0 hN0
    by_cases hlt : k < 64
    · have hkI : (k : Int) < 64 := by omega
      have hn2 : Row wr (b0 + 1 + 1) 93 (arrI (nAt d k 0)) := by
        have e : arrI (nAt d k 0) = arrI fun j => cnt (d j) k := arrI_eq fun j _ => (if_neg (Nat.not_lt_zero j)).symm
        rw [e]; exact hn1
      clear hn1
      go_wp2_with fail
      go_loopw [10, 11] (fun n i wq => ∃ s : Nat, s ≤ 4 ∧ i = .int .i64 (s : Int) ∧ n = .int .i64 (holdC d k s : Int) ∧ Row wq b0 29 DA ∧ Row wq (b0 + 1) 80 zst ∧ Row wq (b0 + 1 + 1) 93 (arrI (nAt d k s)) ∧ Below w.heap.size w wq) (fun _ i _ => 4 - (intOf i).toNat)
      case atStart => exact ⟨0, by omega, rfl, rfl, hd1, hr1, hn2, hB⟩
      case round =>
        clear hd1 hr1 hn2 hB
        obtain ⟨s, hs, rfl, rfl, hd1, hr1, hn1, hB⟩ := hrel
        have hle := holdC_le d k s
        by_cases hsl : s < 4
        · have HS := Lib.hid (show holdC d k (s + 1) = holdC d k s + (if (d s).testBit k then 1 else 0) from rfl)
          have HN : Hid (∀ v, v = nAt d k s s + (if (d s).testBit k then 1 else 0) → (arrI (nAt d k s)).setIfInBounds s (.int .i64 (v : Int)) = arrI (nAt d k (s + 1))) := Lib.hid (fun v hv => arrI_set _ _ s v hsl (fun j hj => by rw [hv]; exact nAt_step d k s))
          have HN0 : Hid ((d s).testBit k = false → arrI (nAt d k (s + 1)) = arrI (nAt d k s)) := Lib.hid (fun h => arrI_eq fun j hj => by rw [nAt_step, h]; by_cases e : j = s; subst e; simp; simp [e])
          have cn := (hn1.cell s).trans (arrI_get _ s hsl)
          have fn := hn1.frozen s
          have hnl := nAt_le d k s s hlt
          generalize nAt d k s s = q at *
          generalize holdC d k s = m at *
          have cs := (hd1.cell s).trans (HDC.out s hsl)
          have hsi : (s : Int) < 4 := by omega
          cases hb : (d s).testBit k
          · have HB := Lib.hid hb
            clear hb
            go_wp2_with (go_at_call 56; refine (HH.out s k _).mono ?_; rw [HB.out]; rintro e w' ⟨rfl, rfl⟩)
            go_roundw
            case rel => exact ⟨s + 1, by omega, by go_num, by rw [HS.out, HB.out]; simp, hd1, hr1, by rw [HN0.out HB.out]; exact hn1, hB⟩
            case measure => simp [intOf]; omega
          · have HB := Lib.hid hb
            clear hb
            have hn3 := hn1.set s (.int .i64 ((q + 1 : Nat) : Int))
            rw [HN.out (q + 1) (by rw [HB.out]; rfl), show ((q + 1 : Nat) : Int) = (q : Int) + 1 from rfl] at hn3
            have hd3 : Row (wr.setCell ⟨b0 + 1 + 1, s, none⟩ (.int .i64 ((q : Int) + 1))) b0 29 DA := hd1.other (by omega)
            have hr3 : Row (wr.setCell ⟨b0 + 1 + 1, s, none⟩ (.int .i64 ((q : Int) + 1))) (b0 + 1) 80 zst := hr1.other (by omega)
            have hB3 : Below w.heap.size w (wr.setCell ⟨b0 + 1 + 1, s, none⟩ (.int .i64 ((q : Int) + 1))) := hB.setCell (by show w.heap.size ≤ b0 + 1 + 1; omega) _
            have hqI : (q : Int) ≤ 64 := by omega
            clear hn1 hd1 hr1 hB
            go_wp2_with (go_at_call 56; refine (HH.out s k _).mono ?_; rw [HB.out]; rintro e w' ⟨rfl, rfl⟩)
            go_roundw
            case rel => exact ⟨s + 1, by omega, by go_num, by rw [HS.out, HB.out]; simp, hd3, hr3, hn3, hB3⟩
            case measure => simp [intOf]; omega
        · obtain rfl : s = 4 := by omega
          have hbd : badC d k = (decide (1 < holdC d k 4) || (decide (0 < holdC d k 4) && decide (52 ≤ k))) := rfl
          have hn2 : arrI (nAt d k 4) = arrI fun j => cnt (d j) (k + 1) := arrI_eq fun j hj => (if_pos hj).symm
          rw [hn2] at hn1
          clear hn2
          generalize holdC d k 4 = m at *
          simp only [show ((4 : Nat) : Int) = 4 from rfl]
          rcases (show 1 < m ∨ (m = 1 ∧ 52 ≤ k) ∨ ((m = 0 ∨ m = 1) ∧ ¬ (m = 1 ∧ 52 ≤ k)) by omega) with hm | ⟨hm, h52⟩ | ⟨hm, hn⟩
          · have HF := Lib.hid (HBD.out k (by rw [hbd, decide_eq_true hm]; rfl))
            have hmI : (1 : Int) < (m : Int) := by omega
            clear hbd hm
            obtain ⟨rfl, rfl⟩ := HE0.out HF.out
            go_wp2_with (refine wpList_store_row rfl 80 (.tmp 6) (.tmp 42) rfl (b0 + 1) ZA rfl rfl 80 _ hr1 HZ.out.1 (by rw [HZ.out.2.1]; rfl) HZ.out.2.2 ?_)
            refine bodyPost_ret (v := .tuple #[.agg ZA, .int .i64 140]) (results_cellt Tryd.results36 _ _ (b0 + 1) _ ZA (0, 0) _ rfl (setRow_heap _ _ _ _ _ _ hr1) Tryd.underlying80 rfl HZ.out.1) rfl (by first | exact ⟨ZA, ⟨HZA.out, rfl⟩, below_setRow hB (by omega) _⟩ | exact ⟨by rw [HZA.out]; rfl, below_setRow hB (by omega) _⟩)
          · have HF := Lib.hid (HBD.out k (by rw [hbd, hm, decide_eq_true h52]; rfl))
            have hkI : (51 : Int) < (k : Int) := by omega
            clear hbd h52
            subst hm
            obtain ⟨rfl, rfl⟩ := HE0.out HF.out
            go_wp2_with (refine wpList_store_row rfl 80 (.tmp 6) (.tmp 42) rfl (b0 + 1) ZA rfl rfl 80 _ hr1 HZ.out.1 (by rw [HZ.out.2.1]; rfl) HZ.out.2.2 ?_)
            refine bodyPost_ret (v := .tuple #[.agg ZA, .int .i64 140]) (results_cellt Tryd.results36 _ _ (b0 + 1) _ ZA (0, 0) _ rfl (setRow_heap _ _ _ _ _ _ hr1) Tryd.underlying80 rfl HZ.out.1) rfl (by first | exact ⟨ZA, ⟨HZA.out, rfl⟩, below_setRow hB (by omega) _⟩ | exact ⟨by rw [HZA.out]; rfl, below_setRow hB (by omega) _⟩)
          · have HT : Hid (badC d k = false) := Lib.hid (by
              rw [hbd, decide_eq_false (by omega : ¬ 1 < m)]
              rcases hm with rfl | rfl
              · rfl
              · rw [decide_eq_false (show ¬ 52 ≤ k by omega)]; rfl)
            clear hbd
            rcases hm with rfl | rfl
            · clear hn
              go_wp2_with fail
              go_roundw
              case rel => exact ⟨k + 1, by omega, by go_num, fun c hc => by
                rcases (show c < k ∨ c = k by omega) with h | rfl
                · exact HNO.out c h
                · exact HT.out, hd1, hr1, hn1, hB⟩
              case measure => simp [intOf]; omega
            · have hkI : ¬ (51 : Int) < (k : Int) := by omega
              clear hn
              go_wp2_with fail
              go_roundw
              case rel => exact ⟨k + 1, by omega, by go_num, fun c hc => by
                rcases (show c < k ∨ c = k by omega) with h | rfl
                · exact HNO.out c h
                · exact HT.out, hd1, hr1, hn1, hB⟩
              case measure => simp [intOf]; omega
    · obtain rfl : k = 64 := by omega
      have hok := HOK.out HNO.out
      clear HOK HNO HBD HH hlt
      have q0 := (hn1.cell 0).trans (arrI_get _ 0 (by omega))
      have q1 := (hn1.cell 1).trans (arrI_get _ 1 (by omega))
      have q2 := (hn1.cell 2).trans (arrI_get _ 2 (by omega))
      have q3 := (hn1.cell 3).trans (arrI_get _ 3 (by omega))
      have ep : ∀ j, pop (d j) = cnt (d j) 64 := fun j => rfl
      rw [ep 0, ep 1, ep 2, ep 3] at hok
      clear ep
      generalize cnt (d 0) 64 = n0 at *
      generalize cnt (d 1) 64 = n1 at *
      generalize cnt (d 2) 64 = n2 at *
      generalize cnt (d 3) 64 = n3 at *
      have HDZ : Hid ((Tryd.prog.info? 29).map (·.size) = some DA.size) := Lib.hid (by rw [HDA.out]; exact size_deal14)
      obtain ⟨b1, hb1⟩ : ∃ b, (n0 == 0) = b := ⟨_, rfl⟩
      have e1 : ((n0 : Int) == 0) = b1 := by rw [← hb1]; exact beq_cast n0 0
      obtain ⟨b2, hb2⟩ : ∃ b, (n1 != n0) = b := ⟨_, rfl⟩
      have e2 : ((n1 : Int) != (n0 : Int)) = b2 := by rw [← hb2]; exact bne_cast n1 n0
      obtain ⟨b3, hb3⟩ : ∃ b, (n2 != n0) = b := ⟨_, rfl⟩
      have e3 : ((n2 : Int) != (n0 : Int)) = b3 := by rw [← hb3]; exact bne_cast n2 n0
      obtain ⟨b4, hb4⟩ : ∃ b, (n3 != n0) = b := ⟨_, rfl⟩
      have e4 : ((n3 : Int) != (n0 : Int)) = b4 := by rw [← hb4]; exact bne_cast n3 n0
      obtain ⟨b5, hb5⟩ : ∃ b, decide (4 < tm) = b := ⟨_, rfl⟩
      have e5 : decide ((tm : Int) > 4) = b5 := by rw [← hb5, decide_eq_decide]; omega
      obtain ⟨b6, hb6⟩ : ∃ b, decide (3 < dc) = b := ⟨_, rfl⟩
      have e6 : decide ((dc : Int) > 3) = b6 := by rw [← hb6, decide_eq_decide]; omega
      have hdc3 : b6 = false → dc ≤ 3 := by intro h; rw [h] at hb6; have := of_decide_eq_false hb6; omega
      rw [hb1, hb2, hb3, hb4, hb5, hb6] at hok
      clear hb1 hb2 hb3 hb4 hb5 hb6
      simp only [show ((64 : Nat) : Int) = 64 from rfl]
      go_upto_region 14 with fail
      have HDC3 := Lib.hid hdc3
      clear hdc3
      cases b1
      rotate_left
      · have HF : Hid (F = false) := Lib.hid (hok.trans (by simp))
        clear hok
        obtain ⟨rfl, rfl⟩ := HE0.out HF.out
        go_wp2_with (refine wpList_store_row rfl 80 (.tmp 6) (.tmp 75) rfl (b0 + 1) ZA rfl rfl 80 _ hr1 HZ.out.1 (by rw [HZ.out.2.1]; rfl) HZ.out.2.2 ?_)
        refine bodyPost_ret (v := .tuple #[.agg ZA, .int .i64 140]) (results_cellt Tryd.results36 _ _ (b0 + 1) _ ZA (0, 0) _ rfl (setRow_heap _ _ _ _ _ _ hr1) Tryd.underlying80 rfl HZ.out.1) rfl (by first | exact ⟨ZA, ⟨HZA.out, rfl⟩, below_setRow hB (by omega) _⟩ | exact ⟨by rw [HZA.out]; rfl, below_setRow hB (by omega) _⟩)
      cases b2
      rotate_left
      · have HF : Hid (F = false) := Lib.hid (hok.trans (by simp))
        clear hok
        obtain ⟨rfl, rfl⟩ := HE0.out HF.out
        go_wp2_with (refine wpList_store_row rfl 80 (.tmp 6) (.tmp 75) rfl (b0 + 1) ZA rfl rfl 80 _ hr1 HZ.out.1 (by rw [HZ.out.2.1]; rfl) HZ.out.2.2 ?_)
        refine bodyPost_ret (v := .tuple #[.agg ZA, .int .i64 140]) (results_cellt Tryd.results36 _ _ (b0 + 1) _ ZA (0, 0) _ rfl (setRow_heap _ _ _ _ _ _ hr1) Tryd.underlying80 rfl HZ.out.1) rfl (by first | exact ⟨ZA, ⟨HZA.out, rfl⟩, below_setRow hB (by omega) _⟩ | exact ⟨by rw [HZA.out]; rfl, below_setRow hB (by omega) _⟩)
      cases b3
      rotate_left
      · have HF : Hid (F = false) := Lib.hid (hok.trans (by simp))
        clear hok
        obtain ⟨rfl, rfl⟩ := HE0.out HF.out
        go_wp2_with (refine wpList_store_row rfl 80 (.tmp 6) (.tmp 75) rfl (b0 + 1) ZA rfl rfl 80 _ hr1 HZ.out.1 (by rw [HZ.out.2.1]; rfl) HZ.out.2.2 ?_)
        refine bodyPost_ret (v := .tuple #[.agg ZA, .int .i64 140]) (results_cellt Tryd.results36 _ _ (b0 + 1) _ ZA (0, 0) _ rfl (setRow_heap _ _ _ _ _ _ hr1) Tryd.underlying80 rfl HZ.out.1) rfl (by first | exact ⟨ZA, ⟨HZA.out, rfl⟩, below_setRow hB (by omega) _⟩ | exact ⟨by rw [HZA.out]; rfl, below_setRow hB (by omega) _⟩)
      cases b4
      rotate_left
      · have HF : Hid (F = false) := Lib.hid (hok.trans (by simp))
        clear hok
        obtain ⟨rfl, rfl⟩ := HE0.out HF.out
        go_wp2_with (refine wpList_store_row rfl 80 (.tmp 6) (.tmp 75) rfl (b0 + 1) ZA rfl rfl 80 _ hr1 HZ.out.1 (by rw [HZ.out.2.1]; rfl) HZ.out.2.2 ?_)
        refine bodyPost_ret (v := .tuple #[.agg ZA, .int .i64 140]) (results_cellt Tryd.results36 _ _ (b0 + 1) _ ZA (0, 0) _ rfl (setRow_heap _ _ _ _ _ _ hr1) Tryd.underlying80 rfl HZ.out.1) rfl (by first | exact ⟨ZA, ⟨HZA.out, rfl⟩, below_setRow hB (by omega) _⟩ | exact ⟨by rw [HZA.out]; rfl, below_setRow hB (by omega) _⟩)
      cases b5
      rotate_left
      · have HF : Hid (F = false) := Lib.hid (hok.trans (by simp))
        clear hok
        obtain ⟨rfl, rfl⟩ := HE0.out HF.out
        go_wp2_with (refine wpList_store_row rfl 80 (.tmp 6) (.tmp 75) rfl (b0 + 1) ZA rfl rfl 80 _ hr1 HZ.out.1 (by rw [HZ.out.2.1]; rfl) HZ.out.2.2 ?_)
        refine bodyPost_ret (v := .tuple #[.agg ZA, .int .i64 140]) (results_cellt Tryd.results36 _ _ (b0 + 1) _ ZA (0, 0) _ rfl (setRow_heap _ _ _ _ _ _ hr1) Tryd.underlying80 rfl HZ.out.1) rfl (by first | exact ⟨ZA, ⟨HZA.out, rfl⟩, below_setRow hB (by omega) _⟩ | exact ⟨by rw [HZA.out]; rfl, below_setRow hB (by omega) _⟩)
      cases b6
      rotate_left
      · have HF : Hid (F = false) := Lib.hid (hok.trans (by simp))
        clear hok
        obtain ⟨rfl, rfl⟩ := HE0.out HF.out
        go_wp2_with (refine wpList_store_row rfl 80 (.tmp 6) (.tmp 75) rfl (b0 + 1) ZA rfl rfl 80 _ hr1 HZ.out.1 (by rw [HZ.out.2.1]; rfl) HZ.out.2.2 ?_)
        refine bodyPost_ret (v := .tuple #[.agg ZA, .int .i64 140]) (results_cellt Tryd.results36 _ _ (b0 + 1) _ ZA (0, 0) _ rfl (setRow_heap _ _ _ _ _ _ hr1) Tryd.underlying80 rfl HZ.out.1) rfl (by first | exact ⟨ZA, ⟨HZA.out, rfl⟩, below_setRow hB (by omega) _⟩ | exact ⟨by rw [HZA.out]; rfl, below_setRow hB (by omega) _⟩)
      have HF : Hid (F = true) := Lib.hid (hok.trans (by simp))
      clear hok
      obtain ⟨rfl, rfl⟩ := HE1.out HF.out
      have hdl := HDC3.out rfl
      obtain ⟨ld, hld⟩ : ∃ ld, ld = (dc + 1) % 4 := ⟨_, rfl⟩
      have t1 : IntKind.u8.wrap ((dc : Int) + 1) = (dc : Int) + 1 := by rw [IntKind.wrap_u8]; omega
      have t2 : ((dc : Int) + 1).tmod 4 = (ld : Int) := by rw [Int.tmod_eq_emod_of_nonneg (by omega)]; omega
      have t3 : IntKind.u8.wrap (ld : Int) = (ld : Int) := by rw [IntKind.wrap_u8]; omega
      have hsc : (St.new d tm dc).cells = ({ St.new d tm dc with ld := ld } : St).cells := by rw [hld]; rfl
      have HSC := Lib.hid hsc
      clear hld hsc hdl
      obtain ⟨SB, hSB⟩ : ∃ SB, SB = ({ St.new d tm dc with ld := ld } : St).cells := ⟨_, rfl⟩
      have HZB : Hid ((Tryd.prog.info? 80).map (·.size) = some SB.size ∧ SB.size = 24 ∧ SB.all (·.oneCell') = true) := Lib.hid (by rw [hSB]; exact ⟨size_rst, rfl, one_cells _⟩)
      have HSB := Lib.hid hSB
      have hbn : ∀ w, (Instr.build 80 #[(0, .agg DA), (2, .int .u8 (tm : Int)), (3, .int .u8 (dc : Int)), (4, .int .u8 (ld : Int)), (10, .bool true)]).run Tryd.prog w = .ok (.agg SB) w := fun w => by rw [hSB, HDA.out]; exact run_build w 80 _ _ (by kernel_rfl)
      clear hSB
      go_wp2_with (first
        | refine wpList_load_row rfl 29 (.tmp 3) rfl b0 rfl 29 DA (0, 0) _ hd1 Tryd.underlying29 rfl HDZ.out ?_
        | refine wpList_store_row rfl 80 (.tmp 6) (.tmp 82) rfl (b0 + 1) SB rfl rfl 80 _ hr1 HZB.out.1 (by rw [HZB.out.2.1]; rfl) HZB.out.2.2 ?_)
      refine bodyPost_ret (v := .tuple #[.agg SB, .int .i64 0]) (results_cellt Tryd.results36 _ _ (b0 + 1) _ SB (0, 0) _ rfl (setRow_heap _ _ _ _ _ _ hr1) Tryd.underlying80 rfl HZB.out.1) rfl (by first | exact ⟨SB, ⟨by rw [HSB.out, HSC.out], rfl⟩, below_setRow hB (by omega) _⟩ | exact ⟨by rw [HSB.out, HSC.out], below_setRow hB (by omega) _⟩)
end Go.Proofs.YtgnlmodaekfhfaaDoor
