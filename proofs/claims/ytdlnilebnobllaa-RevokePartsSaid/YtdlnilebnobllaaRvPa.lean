/- The body of finesselaw13.RevokeParts over this seat's program. -/
import Derived.Test.YtdlnilebnobllaaRvDmP
import Derived.Test.YtdlnilebnobllaaRvTuP
import Derived.Test.YtdlnilebnobllaaRvAw
import Derived.Test.YtdlnilebnobllaaRvMk
import Derived.Laws.StructEq
namespace Go.Proofs.Ytdlnilebnobllaa
open Go.RowKit Go.Shelf Go.Sort

theorem byt_take {w : World} {a : Option Addr} {L m : Nat} {zs : List Nat} (h : Byt w a L zs) (hm : m ≤ L) : Byt w a m (zs.take m) := by
  refine ⟨by rw [List.length_take, h.length]; omega, by have := h.small; omega, fun i => ?_, ?_⟩
  · have := h.byte i
    rw [List.getD_eq_getElem?_getD] at this ⊢
    rw [List.getElem?_take]
    split
    · exact this
    · simp
  · rcases Nat.eq_zero_or_pos m with h0 | h0
    · exact .inl h0
    · obtain ⟨b, off, rfl, hb, hc⟩ := h.at (by omega)
      refine .inr ⟨b, off, rfl, hb, fun i hi => ?_⟩
      rw [getD_take _ hi]
      exact hc i (by omega)
theorem to_run (ad : Addr) (len cap k : Nat) (hk : k ≤ cap) (wx : World) :
    (Instr.slice 25 (.slice (some ad) len cap) none (some (.int .i64 (k : Int))) none).run Try.prog wx = .ok (.slice (some ad) k cap) wx := by
  have hsz : (sizeOf (Try.prog.elem 25)).run Try.prog wx = .ok 1 wx := by kernel_rfl
  rw [run_slice_h wx 25 _ len cap (by kernel_rfl) _ _ (by omega) (by omega), hsz]
  simp [Result.andThen, sliced, Addr.add]

theorem getD_take_le (l : List Nat) (m i : Nat) : (l.take m).getD i 0 ≤ l.getD i 0 := by
  rw [List.getD_eq_getElem?_getD, List.getD_eq_getElem?_getD, List.getElem?_take]
  split
  · exact Nat.le_refl _
  · exact Nat.zero_le _

set_option maxHeartbeats 2000000 in
set_option maxRecDepth 100000 in
theorem law_RevokeParts (x : Sk) (ao : Option Addr) (lo co : Nat) (ap : Option Addr) (lp cp : Nat) (many : Nat) (w : World) (ho : Byt w ao lo x.order) (hp : Byt w ap lp x.play)
    (hsz : x.size < 256) (htr : x.trumps < 256) (hde : x.decl < 256) (hmany : many < 256) :
    Calls Try.prog 7 #[.agg (x.cells ao lo co ap lp cp), .int .u8 (many : Int)] w fun e w' => e = .returned (.bool true) ∧ Below w.heap.size w w' := by
  have hn := x.n_le
  have HA := Lib.hid (show ∀ w1, Calls Try.prog 12 #[] w1 fun e w' => e = .returned (.bool true) ∧ Below w1.heap.size w1 w' from awake_true)
  have HM : Hid (∀ w1, Below w.heap.size w w1 → Calls Try.prog 17 #[.agg (x.cells ao lo co ap lp cp)] w1 fun e w' =>
      ∃ a cap, e = .returned (x.rc.v a (4 * x.n) cap) ∧ x.rc.ok (4 * x.n) cap ∧ Byt w' a (4 * x.n) x.rc.zs ∧ (∀ ad, a = some ad → w1.heap.size ≤ ad.block ∧ ad.block < w'.heap.size) ∧ OwnU w' w1.heap.size (.slice a (4 * x.n) cap) x.rc.zs ∧ Below w1.heap.size w1 w') :=
    fun w1 hb => law_made x ao lo co ap lp cp w1 (ho.below (Nat.le_refl _) hb) (hp.below (Nat.le_refl _) hb) hsz htr hde
  go_enter Try.func7, Try.ntmps7
  go_wp2_with fail
  have hB0 := (Below.refl w.heap.size w).alloc (Nat.le_refl _) (.cells (x.cells ao lo co ap lp cp) 36)
  have hX := Row.new w 36 (x.cells ao lo co ap lp cp)
  refine (HA.out _).mono ?_
  rintro e w1 ⟨rfl, hb1⟩
  have hB1 := hB0.trans (hb1.mono hB0.size)
  have hX1 := hX.below hX.lt hb1
  clear hX hB0 hb1
  have x0 := hX1.cell 0
  have x1 := hX1.cell 1
  have x2 := hX1.cell 2
  have x3 := hX1.cell 3
  have x4 := hX1.cell 4
  have x5 := hX1.cell 5
  simp only [List.getElem?_toArray, List.getElem?_cons_zero, List.getElem?_cons_succ] at x0 x1 x2 x3 x4 x5
  go_wp2_with fail
  refine (HM.out w1 hB1).mono ?_
  rintro e w2 ⟨a, cap, rfl, hok, hz, hab, how, hb2⟩
  have hB2 := hB1.trans (hb2.mono hB1.size)
  have hR := Row.new w2 27 (x.rc.cells a (4 * x.n) cap)
  have hBr : Below w2.heap.size w2 (w2.alloc (.cells (x.rc.cells a (4 * x.n) cap) 27)) := (Below.refl _ _).alloc (Nat.le_refl _) _
  have hzB : ∀ w3, Below w2.heap.size w2 w3 → Byt w3 a (4 * x.n) x.rc.zs ∧ ∀ ad, a = some ad → ad.block < w3.heap.size := fun w3 h => ⟨hz.below (Nat.le_refl _) h, fun ad he => Nat.lt_of_lt_of_le (hab ad he).2 h.size⟩
  clear x0 x1 x2 x3 x4 x5 hX1 HA HM
  obtain ⟨m, hm⟩ : ∃ m, m = many % (4 * x.n + 1) := ⟨_, rfl⟩
  have hmL : m ≤ 4 * x.n := by have := Nat.mod_lt many (show 0 < 4 * x.n + 1 by omega); omega
  have hrd3 : x.rc.d ≤ 3 := dealt_d (made_dealt x)
  have hokP : (x.rc.part m).ok m cap := ⟨hok.h, hok.t, hok.d, by have := hok.lc; omega, hok.mx⟩
  have hzP : ∀ w3, Below w2.heap.size w2 w3 → Byt w3 a m (x.rc.zs.take m) := fun w3 h => byt_take (hzB w3 h).1 hmL
  have HF : Hid (∀ w3, Below w2.heap.size w2 w3 → Calls Try.prog 21 #[x.rc.v a (4 * x.n) cap] w3 fun e w' => ∃ v, e = .returned (.tuple #[v, .int .i64 0]) ∧ OwnV w' w3.heap.size v (flatF x.rc.h x.rc.t x.rc.ld0 x.rc.zs (4 * x.n)) ∧ Below w3.heap.size w3 w') :=
    fun w3 h => by
      have := rev_find_ok _ _ _ _ w3 hok (hzB w3 h).1 (hzB w3 h).2 (made_dealt x) (made_right x) (by omega)
      rw [made_find x] at this
      exact this
  have HF2 : Hid (∀ w3, Below w2.heap.size w2 w3 → Calls Try.prog 21 #[x.rc.v a m cap] w3 fun e w' => ∃ v, e = .returned (.tuple #[v, .int .i64 0]) ∧ OwnV w' w3.heap.size v (flatF x.rc.h x.rc.t x.rc.ld0 x.rc.zs m) ∧ Below w3.heap.size w3 w') :=
    fun w3 h => by
      have := rev_find_ok (x.rc.part m) a m cap w3 hokP (hzP w3 h) (hzB w3 h).2 (part_good x hmL).1 (part_right x hmL) (by omega)
      rw [part_find x hmL] at this
      exact this
  have HW : Hid (∀ w3, Below w2.heap.size w2 w3 → Calls Try.prog 18 #[x.rc.v a (4 * x.n) cap] w3 fun e w' => ∃ v, e = .returned (.tuple #[v, .int .i64 0]) ∧ OwnU w' w3.heap.size v (winsTo x.rc.rnds) ∧ Below w3.heap.size w3 w') :=
    fun w3 h => rev_winners_ok _ _ _ _ w3 hok (hzB w3 h).1 (hzB w3 h).2 (made_dealt x) (made_right x)
  have HW2 : Hid (∀ w3, Below w2.heap.size w2 w3 → Calls Try.prog 18 #[x.rc.v a m cap] w3 fun e w' => ∃ v, e = .returned (.tuple #[v, .int .i64 0]) ∧ OwnU w' w3.heap.size v ((winsTo x.rc.rnds).take (m / 4)) ∧ Below w3.heap.size w3 w') :=
    fun w3 h => by
      have := rev_winners_ok (x.rc.part m) a m cap w3 hokP (hzP w3 h) (hzB w3 h).2 (part_good x hmL).1 (part_right x hmL)
      rw [part_wins x hmL] at this
      exact this
  obtain ⟨pm1, pm2⟩ := part_moved x hmL
  obtain ⟨E, hE⟩ : ∃ E : Nat, E = if m < 4 * x.n then 132 else 0 := ⟨_, rfl⟩
  have HMV : Hid (∀ w3, Below w2.heap.size w2 w3 → Calls Try.prog 19 #[x.rc.v a m cap] w3 fun e w' => (∃ A B : Int, e = .returned (.tuple #[.int .i64 A, .int .i64 B, .int .i64 (E : Int)])) ∧ Below w3.heap.size w3 w') :=
    fun w3 h => by
      have := rev_moved (x.rc.part m) a m cap w3 hokP (hzP w3 h) (hzB w3 h).2 (by omega)
      rw [pm1, ← hE] at this
      exact this.mono fun e w' ⟨h1, h2⟩ => ⟨⟨_, _, h1⟩, h2⟩
  have HTR : Hid (∀ w3, Below w2.heap.size w2 w3 → Calls Try.prog 20 #[x.rc.v a m cap] w3 fun e w' => (∃ A B : Int, e = .returned (.tuple #[.int .i64 A, .int .i64 B, .int .i64 (E : Int)])) ∧ Below w3.heap.size w3 w') :=
    fun w3 h => by
      have := rev_tricks (x.rc.part m) a m cap w3 hokP (hzP w3 h) (hzB w3 h).2 (by omega)
      rw [pm2, ← hE] at this
      exact this.mono fun e w' ⟨h1, h2⟩ => ⟨⟨_, _, h1⟩, h2⟩
  obtain ⟨hwl, hw4⟩ := made_wins x
  have hlm := flatF_len_mono x.rc.h x.rc.t x.rc.ld0 x.rc.zs hmL
  have hll : (flatF x.rc.h x.rc.t x.rc.ld0 x.rc.zs (4 * x.n)).length ≤ 24 := by rw [flatF_length]; have := revN_le x.rc.h x.rc.t x.rc.ld0 x.rc.zs (4 * x.n); omega
  have HFI := Lib.hid (fun k (hk : k < (flatF x.rc.h x.rc.t x.rc.ld0 x.rc.zs m).length) => flatF_first x.rc.h x.rc.t x.rc.ld0 x.rc.zs hmL hk)
  obtain ⟨ad, hadE⟩ : ∃ ad, a = some ad := by
    cases a with
    | none => rcases hz.cells with h | ⟨_, _, h, _⟩; exact absurd h (by omega); cases h
    | some ad => exact ⟨ad, rfl⟩
  have HBL := Lib.hid (show ∀ i, (winsTo x.rc.rnds).getD i 0 < 4 from fun i => getD_lt (by omega) hw4 i)
  have hlc := hok.lc
  obtain ⟨K, hK⟩ : ∃ K, K = m / 4 := ⟨_, rfl⟩
  obtain ⟨f, hf⟩ : ∃ f, f = (winsTo x.rc.rnds).take K := ⟨_, rfl⟩
  have hfl : f.length = K := by rw [hf, List.length_take]; omega
  have HFL := Lib.hid hfl
  have HFW : Hid (∀ i, i < K → f.getD i 0 = (winsTo x.rc.rnds).getD i 0) := fun i hi => by rw [hf, getD_take _ hi]
  have HFB : Hid (∀ i, f.getD i 0 < 256) := fun i => by rw [hf]; have h1 := getD_take_le (winsTo x.rc.rnds) K i; have h2 := HBL.out i; omega
  rw [← hK, ← hf] at HW2
  have HKI := Lib.hid (show ((K : Int) != (m : Int) / 4) = false by rw [bne_eq_false_iff_eq]; omega)
  have hKL : K ≤ (winsTo x.rc.rnds).length := by omega
  have HE := Lib.hid hE
  clear hK hf hfl hE
  clear hw4 pm1 pm2 hokP hzP hok how hab hz hzB
  generalize winsTo x.rc.rnds = ws at *
  generalize flatF x.rc.h x.rc.t x.rc.ld0 x.rc.zs m = u at *
  generalize flatF x.rc.h x.rc.t x.rc.ld0 x.rc.zs (4 * x.n) = l at *
  obtain ⟨L, hL⟩ : ∃ L, L = 4 * x.n := ⟨_, rfl⟩
  obtain ⟨V, hV⟩ : ∃ V, V = ws.length := ⟨_, rfl⟩
  have HV := Lib.hid hV
  have hV6 : V ≤ 6 := by omega
  rw [← hV] at hKL
  clear hV
  rw [← hL] at hm hmL HF HW hR hBr HE hlc ⊢
  have hL24 : L ≤ 24 := by omega
  subst hadE
  obtain ⟨ab, ao', asp⟩ := ad
  have hmE : (many : Int) % ((L : Int) + 1) = (m : Int) := by rw [hm]; push_cast; rfl
  have hmT : (many : Int).tmod ((L : Int) + 1) = (m : Int) := by rw [Int.tmod_eq_emod_of_nonneg (by omega)]; exact hmE
  have hwr : IntKind.i64.wrap ((L : Int) + 1) = (L : Int) + 1 := by rw [IntKind.wrap_i64]; omega
  have hsl := to_run ⟨ab, ao', asp⟩ L cap m (by omega)
  clear hm hL hwl
  have r6 := (hR.alloc (.cells (x.rc.cells (some ⟨ab, ao', asp⟩) L cap) 27)).cell 6
  have hP := Row.new (w2.alloc (.cells (x.rc.cells (some ⟨ab, ao', asp⟩) L cap) 27)) 27 (x.rc.cells (some ⟨ab, ao', asp⟩) L cap)
  simp only [World.size_alloc] at hP
  have p6 := hP.cell 6
  have f6 := hP.frozen 6
  simp only [List.getElem?_toArray, List.getElem?_cons_zero, List.getElem?_cons_succ] at r6 p6
  go_wp2_with fail
  go_region
  go_wp2_with fail
  have hP2 : Row ((w2.alloc (.cells (x.rc.cells (some ⟨ab, ao', asp⟩) L cap) 27)).alloc (.cells (x.rc.cells (some ⟨ab, ao', asp⟩) m cap) 27)).drew (w2.heap.size + 1) 27 (x.rc.cells (some ⟨ab, ao', asp⟩) m cap) := by
    have := Row.new (w2.alloc (.cells (x.rc.cells (some ⟨ab, ao', asp⟩) L cap) 27)) 27 (x.rc.cells (some ⟨ab, ao', asp⟩) m cap)
    simp only [World.size_alloc] at this
    exact this
  have hR2 : Row ((w2.alloc (.cells (x.rc.cells (some ⟨ab, ao', asp⟩) L cap) 27)).alloc (.cells (x.rc.cells (some ⟨ab, ao', asp⟩) m cap) 27)).drew w2.heap.size 27 (x.rc.cells (some ⟨ab, ao', asp⟩) L cap) := hR.alloc _
  have hBt := (hBr.alloc (by simp) (.cells (x.rc.cells (some ⟨ab, ao', asp⟩) m cap) 27)).drew
  clear r6 hP p6 f6 hsl hmE hmT hwr hR hBr
  refine (HF.out _ hBt).mono ?_
  generalize ((w2.alloc (.cells (x.rc.cells (some ⟨ab, ao', asp⟩) L cap) 27)).alloc (.cells (x.rc.cells (some ⟨ab, ao', asp⟩) m cap) 27)).drew = w8 at *
  rintro e wa1 ⟨v, rfl, hoL, hb1⟩
  obtain ⟨al, cl, rfl, hnl⟩ := hoL.slice
  have HNL := Lib.hid hnl
  clear hnl
  have hR1x := hR2.below hR2.lt hb1
  have hP1x := hP2.below hP2.lt hb1
  have hB1x := hBt.trans (hb1.mono hBt.size)
  clear hb1 hR2 hP2 hBt 
  have q0 := hP1x.cell 0
  have q1 := hP1x.cell 1
  have q2 := hP1x.cell 2
  have q3 := hP1x.cell 3
  have q4 := hP1x.cell 4
  have q5 := hP1x.cell 5
  have q6 := hP1x.cell 6
  simp only [List.getElem?_toArray, List.getElem?_cons_zero, List.getElem?_cons_succ] at q0 q1 q2 q3 q4 q5 q6
  go_wp2_with fail
  refine (HF2.out _ hB1x).mono ?_
  clear q0 q1 q2 q3 q4 q5 q6
  rintro e wa2 ⟨v, rfl, hoU, hb2⟩
  obtain ⟨au, cu, rfl, hnu⟩ := hoU.slice
  have HNU := Lib.hid hnu
  clear hnu
  have hR2x := hR1x.below hR1x.lt hb2
  have hP2x := hP1x.below hP1x.lt hb2
  have hB2x := hB1x.trans (hb2.mono hB1x.size)
  have hoL2 := hoL.below hb2
  clear hb2 hR1x hP1x hB1x hoL
  have q0 := hR2x.cell 0
  have q1 := hR2x.cell 1
  have q2 := hR2x.cell 2
  have q3 := hR2x.cell 3
  have q4 := hR2x.cell 4
  have q5 := hR2x.cell 5
  have q6 := hR2x.cell 6
  simp only [List.getElem?_toArray, List.getElem?_cons_zero, List.getElem?_cons_succ] at q0 q1 q2 q3 q4 q5 q6
  go_wp2_with fail
  refine (HW.out _ hB2x).mono ?_
  clear q0 q1 q2 q3 q4 q5 q6
  rintro e wa3 ⟨v, rfl, hoW, hb3⟩
  obtain ⟨aw, cw, he, -, -, -, -, hbW⟩ := hoW.byt (by rw [← HV.out]; omega) (fun i => Nat.lt_trans (HBL.out i) (by omega))
  subst he
  rw [← HV.out] at hbW ⊢
  have hR3x := hR2x.below hR2x.lt hb3
  have hP3x := hP2x.below hP2x.lt hb3
  have hB3x := hB2x.trans (hb3.mono hB2x.size)
  have hoL3 := hoL2.below hb3
  have hoU3 := hoU.below hb3
  clear hb3 hR2x hP2x hB2x hoL2 hoU
  have q0 := hP3x.cell 0
  have q1 := hP3x.cell 1
  have q2 := hP3x.cell 2
  have q3 := hP3x.cell 3
  have q4 := hP3x.cell 4
  have q5 := hP3x.cell 5
  have q6 := hP3x.cell 6
  simp only [List.getElem?_toArray, List.getElem?_cons_zero, List.getElem?_cons_succ] at q0 q1 q2 q3 q4 q5 q6
  go_wp2_with fail
  refine (HW2.out _ hB3x).mono ?_
  clear q0 q1 q2 q3 q4 q5 q6
  rintro e wa4 ⟨v, rfl, hoF, hb4⟩
  obtain ⟨af, cf, he, -, -, -, -, hbF⟩ := hoF.byt (by rw [HFL.out]; omega) HFB.out
  subst he
  rw [HFL.out] at hbF ⊢
  have hbW4 := hbW.below (Nat.le_refl _) hb4
  clear hoF hoW hbW
  have hR4x := hR3x.below hR3x.lt hb4
  have hP4x := hP3x.below hP3x.lt hb4
  have hB4x := hB3x.trans (hb4.mono hB3x.size)
  have hoL4 := hoL3.below hb4
  have hoU4 := hoU3.below hb4
  clear hb4 hR3x hP3x hB3x hoL3 hoU3
  have q0 := hP4x.cell 0
  have q1 := hP4x.cell 1
  have q2 := hP4x.cell 2
  have q3 := hP4x.cell 3
  have q4 := hP4x.cell 4
  have q5 := hP4x.cell 5
  have q6 := hP4x.cell 6
  simp only [List.getElem?_toArray, List.getElem?_cons_zero, List.getElem?_cons_succ] at q0 q1 q2 q3 q4 q5 q6
  go_wp2_with fail
  refine (HMV.out _ hB4x).mono ?_
  clear q0 q1 q2 q3 q4 q5 q6
  rintro e wa5 ⟨⟨A1, B1, rfl⟩, hb5⟩
  have hbW5 := hbW4.below (Nat.le_refl _) hb5
  have hbF5 := hbF.below (Nat.le_refl _) hb5
  clear hbW4 hbF
  have hR5x := hR4x.below hR4x.lt hb5
  have hP5x := hP4x.below hP4x.lt hb5
  have hB5x := hB4x.trans (hb5.mono hB4x.size)
  have hoL5 := hoL4.below hb5
  have hoU5 := hoU4.below hb5
  clear hb5 hR4x hP4x hB4x hoL4 hoU4
  have q0 := hP5x.cell 0
  have q1 := hP5x.cell 1
  have q2 := hP5x.cell 2
  have q3 := hP5x.cell 3
  have q4 := hP5x.cell 4
  have q5 := hP5x.cell 5
  have q6 := hP5x.cell 6
  simp only [List.getElem?_toArray, List.getElem?_cons_zero, List.getElem?_cons_succ] at q0 q1 q2 q3 q4 q5 q6
  go_wp2_with fail
  refine (HTR.out _ hB5x).mono ?_
  clear q0 q1 q2 q3 q4 q5 q6
  rintro e wa6 ⟨⟨A2, B2, rfl⟩, hb6⟩
  have hbW6 := hbW5.below (Nat.le_refl _) hb6
  have hbF6 := hbF5.below (Nat.le_refl _) hb6
  clear hbW5 hbF5
  have hR6x := hR5x.below hR5x.lt hb6
  have hP6x := hP5x.below hP5x.lt hb6
  have hB6x := hB5x.trans (hb6.mono hB5x.size)
  have hoL6 := hoL5.below hb6
  have hoU6 := hoU5.below hb6
  clear hb6 hR5x hP5x hB5x hoL5 hoU5
  have q0 := hP6x.cell 0
  have q1 := hP6x.cell 1
  have q2 := hP6x.cell 2
  have q3 := hP6x.cell 3
  have q4 := hP6x.cell 4
  have q5 := hP6x.cell 5
  have q6 := hP6x.cell 6
  simp only [List.getElem?_toArray, List.getElem?_cons_zero, List.getElem?_cons_succ] at q0 q1 q2 q3 q4 q5 q6
  have hKI := HKI.out
  have hlmB : decide (l.length < u.length) = false := by rw [decide_eq_false_iff_not]; omega
  go_wp2_with fail
  clear q0 q1 q2 q3 q4 q5 q6 hKI
  have HB6 := Lib.hid (hB2.trans (hB6x.mono hB2.size))
  have hb0 := Below.refl wa6.heap.size wa6
  clear hB6x
  go_loopg [100] K (fun gk i wr => ∃ k : Nat, gk = K - k ∧ k ≤ K ∧ i = .int .i64 (k : Int) ∧ Below wa6.heap.size wa6 wr)
  case atStart => exact ⟨0, rfl, by omega, rfl, hb0⟩
  case round =>
    obtain ⟨k, rfl, hk, rfl, hb⟩ := hrel
    by_cases hlt : k < K
    · obtain ⟨b1, o1, had1, hbb1, hcs1⟩ := (hbF6.below (Nat.le_refl _) hb).at (by omega)
      obtain ⟨b3, o3, had3, hbb3, hcs3⟩ := (hbW6.below (Nat.le_refl _) hb).at (by omega)
      subst had1 had3
      have c1 := hcs1 k hlt
      have c3 := hcs3 k (by omega)
      rw [HFW.out k hlt] at c1
      clear hcs1 hcs3
      generalize ws.getD k 0 = z at *
      have rc1 := fun dd os => cell_regrown c1 dd os
      have rc3 := fun dd os => cell_regrown c3 dd os
      have hkV : k < V := by omega
      go_wp2
      refine wp_region_quiet_below (by kernel_rfl) (by kernel_rfl) ?_
      repeat (quiet_step (fail))
      refine wpQuiet_nil ?_
      rintro _ ⟨p, rfl⟩
      clear rc1 rc3
      have hb8 := below_regrown wr p.d p.os
      generalize grow (redrawn wr p.d) p.os = w9 at *
      have hb9 := hb.trans (hb8.mono hb.size)
      go_wp2
      go_roundg (K - (k + 1))
      case rel => exact ⟨k + 1, rfl, by omega, by go_num, hb9⟩
      case measure => omega
    · go_wp2_with fail
      obtain ⟨wo, rfl⟩ : ∃ wo : World, wo = wr := ⟨_, rfl⟩
      go_loopg [115] u.length (fun gj i wr => ∃ j : Nat, gj = u.length - j ∧ j ≤ u.length ∧ i = .int .i64 (j : Int) ∧ Below wa6.heap.size wa6 wr)
      case atStart => exact ⟨0, rfl, by omega, rfl, hb⟩
      case round =>
        obtain ⟨j, rfl, hj, rfl, hbj⟩ := hrel
        by_cases hjl : j < u.length
        · obtain ⟨y, z, hy, hz, hze, himp⟩ := HFI.out j hjl
          obtain ⟨gu, hgu⟩ := HNU.out (by intro e; rw [e] at hjl; simp at hjl)
          obtain ⟨gl, hgl⟩ := HNL.out (by intro e; rw [e] at hlm; simp at hlm; rw [hlm] at hjl; simp at hjl)
          subst hgu hgl
          obtain ⟨c0, c1, c2, c3, c4⟩ := ownV_cells (hoU6.below hbj) j hy
          obtain ⟨d0, d1, d2, d3, d4⟩ := ownV_cells (hoL6.below hbj) j hz
          obtain ⟨yt, ys, yu, yc, ye⟩ := y
          obtain ⟨zt, zs', zu, zc, ze⟩ := z
          simp only [Rvk.mk.injEq] at hze
          obtain ⟨rfl, rfl, rfl, rfl, -⟩ := hze
          dsimp only at c0 c1 c2 c3 c4 d0 d1 d2 d3 d4 himp
          have hbn := hbj.size
          have hgl1 := ((hoL6.below hbj).row (g := gl) rfl).2.1
          have hgu1 := ((hoU6.below hbj).row (g := gu) rfl).2.1
          have hjL : j < l.length := by omega
          have HBA := Lib.hid ((hbj.alloc hbn (.cells #[.int .i64 (zt : Int), .int .u8 (zs' : Int), .int .u8 (zu : Int), .int .u8 (zc : Int), .bool ze] 50)).alloc (by simp; omega) (.cells #[.int .i64 (zt : Int), .int .u8 (zs' : Int), .int .u8 (zu : Int), .int .u8 (zc : Int), .bool ze] 50))
          clear hy hz hk hlt
          cases ye <;> cases ze
          · clear himp
            go_wp2
            go_roundg (u.length - (j + 1))
            case rel => exact ⟨j + 1, rfl, by omega, by go_num, HBA.out⟩
            case measure => omega
          · clear himp
            go_wp2
            go_roundg (u.length - (j + 1))
            case rel => exact ⟨j + 1, rfl, by omega, by go_num, HBA.out⟩
            case measure => omega
          · exact absurd (himp rfl) (by simp)
          · clear himp
            go_wp2
            go_roundg (u.length - (j + 1))
            case rel => exact ⟨j + 1, rfl, by omega, by go_num, HBA.out⟩
            case measure => omega
        · have HB9 := Lib.hid (HB6.out.trans (hbj.mono HB6.out.size))
          have hR9 := hR6x.below hR6x.lt hbj
          have hP9 := hP6x.below hP6x.lt hbj
          have r6 := hR9.cell 6
          have q6 := hP9.cell 6
          simp only [List.getElem?_toArray, List.getElem?_cons_zero, List.getElem?_cons_succ] at r6 q6
          rcases (show (m < L ∧ E = 132) ∨ (m = L ∧ E = 0) by have := HE.out; by_cases h : m < L; exact .inl ⟨h, by rw [this, if_pos h]⟩; exact .inr ⟨by omega, by rw [this, if_neg h]⟩) with ⟨h1, rfl⟩ | ⟨rfl, rfl⟩
          · have hmI : ((m : Int) == (L : Int)) = false := by rw [beq_eq_false_iff_ne]; omega
            go_wp2
            go_ret
            exact ⟨rfl, HB9.out⟩
          · go_wp2
            go_ret
            exact ⟨rfl, HB9.out⟩
end Go.Proofs.Ytdlnilebnobllaa
