/- PyX, PySn in one text. -/
import Derived.Test.YtginbellakkliaaDoorMPyv
import Derived.Test.YtginbellakkliaaDoorMPyi

/- The contract of a play's Cards over this seat's program. -/
namespace Go.Proofs.YtginbellakkliaaDoor
open Go.RowKit Go.Shelf Go.Sort
attribute [local go_sem] Oper.semAt_some

set_option maxHeartbeats 1000000 in
set_option maxRecDepth 100000 in
theorem ply_cards {w : World} {B base : Nat} {p : Ply} {vs vb : Value} (hp : p.ok) (h : PlyAt w B base p vs vb) :
    Calls Tryd.prog 20 #[.pointer (some ⟨B, 0, none⟩)] w fun e w' => ∃ v, e = .returned v ∧ OwnU w' w.heap.size v (p.steps.map Stp.c) ∧ Below w.heap.size w w' := by
  have HM := Lib.hid (ply_made hp h)
  have hR := h.row
  obtain ⟨a, cap, rfl, hne⟩ := h.ss.slice
  have c14 : w.cell? ⟨B, 14, none⟩ = some (.slice a p.steps.length cap) := hR.cell 14
  have hmany : p.steps.length ≤ 60000 := by have := hp.many; omega
  obtain ⟨i0, hi, hz0, hz1, hz2⟩ := info_parts info_u8'
  obtain ⟨w1, hrun, hown1, hg1⟩ := run_make_own (P := Tryd.prog) w w.heap.size 22 5 i0 (.int .u8 0) 1 Tryd.underlying22 hi hz0 hz1 .i64 .i64 p.steps.length (by rw [hz2]; omega) (by unfold maxLen; omega) (Nat.le_refl _)
  have hb1 : Below w.heap.size w w1 := (Below.refl _ _).grown hg1 (Nat.le_refl _) (fun _ h => by cases h)
  have hR1 := hR.below hR.lt hb1
  have hss := h.ss
  have d14 : w1.cell? ⟨B, 14, none⟩ = some (.slice a p.steps.length cap) := hR1.cell 14
  obtain ⟨n, hn⟩ : ∃ n, p.steps.length = n := ⟨_, rfl⟩
  have hown1' : OwnU w1 w.heap.size (.slice (some ⟨w.heap.size, 0, none⟩) 0 n) [] := ⟨encU_len, by rw [← hn]; exact hown1⟩
  rw [hn] at c14 hmany hrun d14 hss
  have HN := Lib.hid hn
  have HSS := Lib.hid hss
  have HO1 := Lib.hid hown1'
  clear hn hss h hR hR1 hown1 hown1' hg1 hne
  go_enter Tryd.func20, Tryd.ntmps20
  go_wp2_with (go_at_call 41; refine HM.out.mono ?_; rintro e w' ⟨rfl, rfl⟩)
  go_loopw [3, 20] (fun l i wr => ∃ k, k ≤ n ∧ i = .int .i64 (k : Int) ∧ OwnU wr w.heap.size l ((p.steps.take k).map Stp.c) ∧ Below w.heap.size w wr) (fun _ i _ => n - (intOf i).toNat)
  case atStart => exact ⟨0, by omega, rfl, HO1.out, hb1⟩
  case round =>
    obtain ⟨k, hk, rfl, ho, hb⟩ := hrel
    by_cases hkn : k < n
    · have hkl : k < p.steps.length := by rw [HN.out]; exact hkn
      have hxs := hp.steps p.steps[k] (List.getElem_mem hkl)
      have hx : p.steps[k]? = some p.steps[k] := List.getElem?_eq_getElem hkl
      have hS := HSS.out.below hb
      obtain ⟨g, rfl⟩ : ∃ g, a = some ⟨g, 0, none⟩ := by
        rcases hS.form with ⟨_, e⟩ | ⟨g, cp, e, _⟩
        · rw [e] at hkl; simp at hkl
        · exact ⟨g, by injection e⟩
      have hcl := fun j (hj : j < 11) => hS.cell k j hj hx
      have htake : p.steps.take (k + 1) = p.steps.take k ++ [p.steps[k]] := by rw [List.take_add_one, hx]; rfl
      have HTK := Lib.hid htake
      generalize p.steps[k] = x at *
      have e0 := hcl 0 (by omega)
      have e1 := hcl 1 (by omega)
      have e2 := hcl 2 (by omega)
      have e3 := hcl 3 (by omega)
      have e4 := hcl 4 (by omega)
      have e5 := hcl 5 (by omega)
      have e6 := hcl 6 (by omega)
      have e7 := hcl 7 (by omega)
      have e8 := hcl 8 (by omega)
      have e9 := hcl 9 (by omega)
      have e10 := hcl 10 (by omega)
      simp only [List.getElem?_cons_zero, List.getElem?_cons_succ, Nat.add_zero] at e0 e1 e2 e3 e4 e5 e6 e7 e8 e9 e10
      have hc52 := hxs.2
      have HO := Lib.hid ho
      have HB := Lib.hid hb
      clear hcl hx hS hkl hxs ho hb htake
      have hM := HB.out.size
      go_upto_region 7 with fail
      have hX := Row.new wr 92 #[.int .u64 (x.st.h 0 : Int), .int .u64 (x.st.h 1 : Int), .int .u64 (x.st.h 2 : Int), .int .u64 (x.st.h 3 : Int), .int .u8 (x.st.ld : Int), .int .u8 (x.st.ct : Int), .int .u8 (x.st.cs 0 : Int), .int .u8 (x.st.cs 1 : Int), .int .u8 (x.st.cs 2 : Int), .int .u8 (x.st.cs 3 : Int), .int .u8 (x.c : Int)]
      have hOi := HO.out.alloc (.cells #[.int .u64 (x.st.h 0 : Int), .int .u64 (x.st.h 1 : Int), .int .u64 (x.st.h 2 : Int), .int .u64 (x.st.h 3 : Int), .int .u8 (x.st.ld : Int), .int .u8 (x.st.ct : Int), .int .u8 (x.st.cs 0 : Int), .int .u8 (x.st.cs 1 : Int), .int .u8 (x.st.cs 2 : Int), .int .u8 (x.st.cs 3 : Int), .int .u8 (x.c : Int)] 92)
      have hBi := HB.out.alloc hM (.cells #[.int .u64 (x.st.h 0 : Int), .int .u64 (x.st.h 1 : Int), .int .u64 (x.st.h 2 : Int), .int .u64 (x.st.h 3 : Int), .int .u8 (x.st.ld : Int), .int .u8 (x.st.ct : Int), .int .u8 (x.st.cs 0 : Int), .int .u8 (x.st.cs 1 : Int), .int .u8 (x.st.cs 2 : Int), .int .u8 (x.st.cs 3 : Int), .int .u8 (x.c : Int)] 92)
      have hsz : (wr.alloc (.cells #[.int .u64 (x.st.h 0 : Int), .int .u64 (x.st.h 1 : Int), .int .u64 (x.st.h 2 : Int), .int .u64 (x.st.h 3 : Int), .int .u8 (x.st.ld : Int), .int .u8 (x.st.ct : Int), .int .u8 (x.st.cs 0 : Int), .int .u8 (x.st.cs 1 : Int), .int .u8 (x.st.cs 2 : Int), .int .u8 (x.st.cs 3 : Int), .int .u8 (x.c : Int)] 92)).heap.size = wr.heap.size + 1 := World.size_alloc _ _
      generalize wr.alloc (.cells #[.int .u64 (x.st.h 0 : Int), .int .u64 (x.st.h 1 : Int), .int .u64 (x.st.h 2 : Int), .int .u64 (x.st.h 3 : Int), .int .u8 (x.st.ld : Int), .int .u8 (x.st.ct : Int), .int .u8 (x.st.cs 0 : Int), .int .u8 (x.st.cs 1 : Int), .int .u8 (x.st.cs 2 : Int), .int .u8 (x.st.cs 3 : Int), .int .u8 (x.c : Int)] 92) = wi at *
      have hc10 := hX.cell 10
      simp only [List.getElem?_toArray, List.getElem?_cons_zero, List.getElem?_cons_succ] at hc10
      have htl : (((p.steps.take k).map Stp.c)).length ≤ 60000 := by rw [List.length_map, List.length_take]; omega
      have HTL := Lib.hid htl
      generalize hG : wr.heap.size = M at *
      have HSZ := Lib.hid hsz
      clear e0 e1 e2 e3 e4 e5 e6 e7 e8 e9 e10 hX htl hsz
      go_wp2_with (at_builtin; refine appU rfl (.tmp 24) (.tmp 27) rfl w.heap.size _ ((p.steps.take k).map Stp.c) [x.c] rfl (Owns.alloc hOi _) ⟨wi.heap.size, 0, none⟩ 1 1 rfl (byt_new1 wi x.c (by omega)) (by have := HTL.out; omega) (by rw [World.size_alloc]; have := HSZ.out; omega) ?_; intro v' w10 hown' hB10 _ _)
      go_roundw
      case rel => exact ⟨k + 1, by omega, by go_num, by rw [HTK.out, List.map_append]; exact hown', (hBi.alloc (by have := HSZ.out; omega) _).trans hB10⟩
      case measure => simp [intOf]; omega
    · have hke : k = n := by omega
      subst hke
      have HO := Lib.hid ho
      clear ho
      go_wp2_with fail
      refine bodyPost_ret (results_tmp rfl _ _ _) rfl ?_
      exact ⟨_, rfl, by have := HO.out; rwa [← HN.out, List.take_length] at this, hb⟩
end Go.Proofs.YtginbellakkliaaDoor

/- Plain: what a seat sees (finesselaw12.PlaySeen); one play in memory, its methods with values given. -/
namespace Go.Proofs.YtginbellakkliaaDoor
open Go.RowKit Go.Shelf Go.Sort

/-- the cards that are gone -/
def goneV (l : List Nat) : Nat := l.foldl (fun m c => lor m (shl1 c)) 0
theorem goneV_snoc (l : List Nat) (c : Nat) : goneV (l ++ [c]) = lor (goneV l) (shl1 c) := by simp [goneV]
theorem gone_bit (i : Nat) : ∀ (l : List Nat) (m : Nat), (∀ c ∈ l, c < 64) → (l.foldl (fun m c => lor m (shl1 c)) m).testBit i = (m.testBit i || decide (i ∈ l))
  | [], m, _ => by simp
  | c :: l, m, h => by
    rw [List.foldl_cons, gone_bit i l _ (fun x hx => h x (List.mem_cons_of_mem _ hx)), y_testBit_lor_shl1 _ _ _ (h c (List.mem_cons_self ..))]
    by_cases hc : c = i
    · simp [hc]
    · have : ¬ i = c := fun e => hc e.symm
      simp [hc, this]
theorem goneV_bit {l : List Nat} (h : ∀ c ∈ l, c < 64) (i : Nat) : (goneV l).testBit i = decide (i ∈ l) := by
  unfold goneV; rw [gone_bit i l 0 h]; simp
theorem goneV_w64 {l : List Nat} : W64 (goneV l) := by
  have : ∀ (l : List Nat) (m : Nat), W64 m → W64 (l.foldl (fun m c => lor m (shl1 c)) m) := by
    intro l
    induction l with
    | nil => exact fun m h => h
    | cons c l ih => exact fun m h => ih _ (h.lor (W64.shl1 _))
  exact this l 0 W64.zero
theorem hid_bit (h g : Nat → Nat) (i : Nat) : (hidV h g).testBit i = true ↔ ∃ j, j < 4 ∧ (h j).testBit i = true ∧ (g j).testBit i = false := by
  unfold hidV
  simp only [testBit_lor, testBit_landn, Nat.zero_testBit, Bool.false_or, Bool.or_eq_true, Bool.and_eq_true, Bool.not_eq_true']
  constructor
  · rintro (((h1 | h1) | h1) | h1)
    · exact ⟨0, by omega, h1⟩
    · exact ⟨1, by omega, h1⟩
    · exact ⟨2, by omega, h1⟩
    · exact ⟨3, by omega, h1⟩
  · rintro ⟨j, hj, h1⟩
    rcases (show j = 0 ∨ j = 1 ∨ j = 2 ∨ j = 3 by omega) with rfl | rfl | rfl | rfl
    · exact .inl (.inl (.inl h1))
    · exact .inl (.inl (.inr h1))
    · exact .inl (.inr h1)
    · exact .inr h1
theorem seenH_eq (p : Ply) (s k : Nat) : p.seenH s k = if k = s ∨ (k = p.dummy ∧ p.steps ≠ []) then p.st.h k else 0 := by
  unfold Ply.seenH
  by_cases hs : p.steps = []
  · rw [if_pos hs]
    unfold setH
    by_cases h1 : k = s
    · subst h1; simp
    · simp [h1, hs]
  · rw [if_neg hs]
    unfold setH
    by_cases h1 : k = p.dummy
    · subst h1; simp [hs]
    · by_cases h2 : k = s
      · subst h2; simp [h1]
      · simp [h1, h2]
theorem PInv.cards52 {d : Nat → Nat} {n t : Nat} {p : Ply} (h : PInv d n p t) : ∀ c ∈ p.steps.map Stp.c, c < 52 := by
  intro c hc
  obtain ⟨x, hx, rfl⟩ := List.mem_map.1 hc
  exact (h.ok.steps x hx).2
theorem seen_ok {d : Nat → Nat} {n t : Nat} {p : Ply} (h : PInv d n p t) (hd : Deal4 d n) (s : Nat) :
    land (hidV p.st.h (p.seenH s)) (goneV (p.steps.map Stp.c)) = 0 ∧
    lor (lor (lor (lor (lor (p.seenH s 0) (p.seenH s 1)) (p.seenH s 2)) (p.seenH s 3)) (hidV p.st.h (p.seenH s))) (goneV (p.steps.map Stp.c)) = lor (lor (lor (d 0) (d 1)) (d 2)) (d 3) ∧
    ∀ k, k < 4 → land (p.seenH s k) (lor (hidV p.st.h (p.seenH s)) (goneV (p.steps.map Stp.c))) = 0 := by
  have h64 : ∀ c ∈ p.steps.map Stp.c, c < 64 := fun c hc => by have := h.cards52 c hc; omega
  have hgb := goneV_bit h64
  have hmem : ∀ i, i ∈ p.steps.map Stp.c ↔ ∃ x ∈ p.steps, x.c = i := fun i => by simp
  have hgone : ∀ i j, i ∈ p.steps.map Stp.c → (p.st.h j).testBit i = false := fun i j hi => by
    obtain ⟨x, hx, rfl⟩ := (hmem i).1 hi
    exact h.gone x hx j
  have hsub : ∀ k i, (p.seenH s k).testBit i = true → (p.st.h k).testBit i = true := fun k i hi => by
    rw [seenH_eq] at hi; split at hi
    · exact hi
    · simp at hi
  refine ⟨?_, ?_, fun k hk => ?_⟩
  · refine land_zero fun i hi => ?_
    obtain ⟨j, _, h1, _⟩ := (hid_bit _ _ i).1 hi
    rw [hgb]
    by_cases hm : i ∈ p.steps.map Stp.c
    · rw [hgone i j hm] at h1; cases h1
    · simpa using hm
  · apply Nat.eq_of_testBit_eq
    intro i
    rw [Bool.eq_iff_iff]
    simp only [testBit_lor, Bool.or_eq_true, hid_bit, hgb, decide_eq_true_eq]
    constructor
    · rintro (((((h1 | h1) | h1) | h1) | ⟨j, hj, h1, _⟩) | h1)
      · exact .inl (.inl (.inl (h.bit 0 i (hsub 0 i h1))))
      · exact .inl (.inl (.inr (h.bit 1 i (hsub 1 i h1))))
      · exact .inl (.inr (h.bit 2 i (hsub 2 i h1)))
      · exact .inr (h.bit 3 i (hsub 3 i h1))
      · have := h.bit j i h1
        rcases (show j = 0 ∨ j = 1 ∨ j = 2 ∨ j = 3 by omega) with rfl | rfl | rfl | rfl
        · exact .inl (.inl (.inl this))
        · exact .inl (.inl (.inr this))
        · exact .inl (.inr this)
        · exact .inr this
      · obtain ⟨x, hx, rfl⟩ := (hmem i).1 h1
        obtain ⟨j, hj, this⟩ := h.part x hx
        rcases (show j = 0 ∨ j = 1 ∨ j = 2 ∨ j = 3 by omega) with rfl | rfl | rfl | rfl
        · exact .inl (.inl (.inl this))
        · exact .inl (.inl (.inr this))
        · exact .inl (.inr this)
        · exact .inr this
    · have key : ∀ j, j < 4 → (d j).testBit i = true → (p.seenH s j).testBit i = true ∨ (∃ j, j < 4 ∧ (p.st.h j).testBit i = true ∧ (p.seenH s j).testBit i = false) ∨ i ∈ p.steps.map Stp.c := by
        intro j hj hb
        rcases h.cover j i hb with h1 | h1
        · cases hq : (p.seenH s j).testBit i
          · exact .inr (.inl ⟨j, hj, h1, hq⟩)
          · exact .inl rfl
        · exact .inr (.inr ((hmem i).2 h1))
      rintro (((h1 | h1) | h1) | h1)
      · rcases key 0 (by omega) h1 with h2 | h2 | h2
        · exact .inl (.inl (.inl (.inl (.inl h2))))
        · exact .inl (.inr h2)
        · exact .inr h2
      · rcases key 1 (by omega) h1 with h2 | h2 | h2
        · exact .inl (.inl (.inl (.inl (.inr h2))))
        · exact .inl (.inr h2)
        · exact .inr h2
      · rcases key 2 (by omega) h1 with h2 | h2 | h2
        · exact .inl (.inl (.inl (.inr h2)))
        · exact .inl (.inr h2)
        · exact .inr h2
      · rcases key 3 (by omega) h1 with h2 | h2 | h2
        · exact .inl (.inl (.inr h2))
        · exact .inl (.inr h2)
        · exact .inr h2
  · refine land_zero fun i hi => ?_
    have hki := hsub k i hi
    rw [testBit_lor, Bool.or_eq_false_iff, hgb]
    constructor
    · cases hq : (hidV p.st.h (p.seenH s)).testBit i
      · rfl
      · obtain ⟨j, hj, h1, h2⟩ := (hid_bit _ _ i).1 hq
        by_cases hjk : j = k
        · subst hjk; rw [hi] at h2; cases h2
        · have := hd.apart j k i hjk (h.bit j i h1)
          rw [h.bit k i hki] at this; cases this
    · by_cases hm : i ∈ p.steps.map Stp.c
      · rw [hgone i k hm] at hki; cases hki
      · simpa using hm
theorem hidV_w64 {h g : Nat → Nat} (hh : ∀ j, W64 (h j)) : W64 (hidV h g) := by
  unfold hidV
  exact ((((W64.zero).lor (hh 0).landn).lor (hh 1).landn).lor (hh 2).landn).lor (hh 3).landn
theorem seenH_w64 {p : Ply} (h : p.ok) (s k : Nat) : W64 (p.seenH s k) := by
  rw [seenH_eq]; split
  · exact h.st.h k
  · exact W64.zero
theorem in_cards {W : World} {B : Nat} {p : Ply} {G : Nat → Prop} (h : InP W B p G) :
    Calls Tryd.prog 20 #[.pointer (some ⟨B, 0, none⟩)] W fun e W' => ∃ v, e = .returned v ∧ OwnU W' W.heap.size v (p.steps.map Stp.c) ∧ Below W.heap.size W W' := by
  obtain ⟨vs, vb, h1, _⟩ := h.mem
  exact ply_cards h.ok h1
end Go.Proofs.YtginbellakkliaaDoor
