/- DmX, DmY in one text. -/
import Derived.Test.YtnbillhodbcfbaaDoorDmV
import Derived.Test.YtnbillhodbcfbaaDoorMLow
import Derived.Test.YtnbillhodbcfbaaDoorMDmt

/- Tables of package dummy over this seat's program: distinct. -/
namespace Go.Proofs.YtnbillhodbcfbaaDoor
open Go.RowKit Go.Sort Go.Shelf

def oth1 (t : Tb) : Nat → Nat
  | 0 => 0
  | k + 1 => lor (oth1 t k) (shl1 (t.cs.getD k 0))
def oth2 (t : Tb) : Nat → Nat
  | 0 => oth1 t t.cs.length
  | s + 1 => if s = t.turn then oth2 t s else lor (oth2 t s) (t.h s)
def othM (t : Tb) : Nat := oth2 t 4
theorem oth1_bit {t : Tb} (h : TbOk t) (x : Nat) : ∀ k, k ≤ t.cs.length → ((oth1 t k).testBit x = true ↔ ∃ i, i < k ∧ t.cs[i]? = some x)
  | 0, _ => by
    show (0 : Nat).testBit x = true ↔ _
    rw [Nat.zero_testBit]
    constructor
    · intro h
      cases h
    · rintro ⟨i, hi, _⟩
      omega
  | k + 1, hk => by
    have ih := oth1_bit h x k (by omega)
    show (lor (oth1 t k) (shl1 (t.cs.getD k 0))).testBit x = true ↔ _
    have hc := h.getD k
    have e : t.cs[k]? = some (t.cs.getD k 0) := by rw [List.getD_eq_getElem?_getD, List.getElem?_eq_getElem (by omega)]; rfl
    rw [testBit_lor, testBit_shl1, Bool.or_eq_true, ih, decide_eq_true (show t.cs.getD k 0 < 64 by omega), Bool.and_true, decide_eq_true_eq]
    constructor
    · rintro (⟨i, hi, hx⟩ | rfl)
      · exact ⟨i, by omega, hx⟩
      · exact ⟨k, by omega, e⟩
    · rintro ⟨i, hi, hx⟩
      by_cases hik : i = k
      · subst hik
        rw [e] at hx
        exact .inr (Option.some.inj hx)
      · exact .inl ⟨i, by omega, hx⟩
theorem oth2_bit (t : Tb) (x : Nat) : ∀ s, s ≤ 4 → ((oth2 t s).testBit x = true ↔ (oth1 t t.cs.length).testBit x = true ∨ ∃ i, i < s ∧ i ≠ t.turn ∧ (t.h i).testBit x = true)
  | 0, _ => by
    show (oth1 t t.cs.length).testBit x = true ↔ _
    exact ⟨.inl, fun h => h.elim id fun ⟨i, hi, _⟩ => by omega⟩
  | s + 1, hs => by
    have ih := oth2_bit t x s (by omega)
    show (if s = t.turn then oth2 t s else lor (oth2 t s) (t.h s)).testBit x = true ↔ _
    by_cases e : s = t.turn
    · rw [if_pos e, ih]
      refine or_congr_right ⟨fun ⟨i, h1, h2, h3⟩ => ⟨i, by omega, h2, h3⟩, fun ⟨i, h1, h2, h3⟩ => ⟨i, by omega, h2, h3⟩⟩
    · rw [if_neg e, testBit_lor, Bool.or_eq_true, ih]
      constructor
      · rintro ((h | ⟨i, h1, h2, h3⟩) | h)
        · exact .inl h
        · exact .inr ⟨i, by omega, h2, h3⟩
        · exact .inr ⟨s, by omega, e, h⟩
      · rintro (h | ⟨i, h1, h2, h3⟩)
        · exact .inl (.inl h)
        · by_cases his : i = s
          · subst his; exact .inr h3
          · exact .inl (.inr ⟨i, by omega, h2, h3⟩)
theorem othM_bit {t : Tb} (h : TbOk t) (x : Nat) : (othM t).testBit x = true ↔ othR t x := by
  unfold othM
  rw [oth2_bit t x 4 (Nat.le_refl _), oth1_bit h x _ (Nat.le_refl _)]
  constructor
  · rintro (⟨i, hi, hx⟩ | ⟨s, h1, h2, h3⟩)
    · exact ⟨_, trick_other h.pk.2 hx, own_trick hx⟩
    · exact ⟨s, h2, own_hand h1 h3⟩
  · rintro ⟨s, hs, h4, hb | ⟨i, hi, rfl⟩⟩
    · exact .inr ⟨s, h4, hs, hb⟩
    · exact .inl ⟨i, (List.getElem?_eq_some_iff.1 hi).1, hi⟩
theorem oth1_w64 {t : Tb} : ∀ k, W64 (oth1 t k)
  | 0 => W64.zero
  | k + 1 => (oth1_w64 k).lor (W64.shl1 _)
theorem oth2_w64 {t : Tb} (h : TbOk t) : ∀ s, W64 (oth2 t s)
  | 0 => oth1_w64 _
  | s + 1 => by
    show W64 (if s = t.turn then oth2 t s else lor (oth2 t s) (t.h s))
    split
    · exact oth2_w64 h s
    · exact (oth2_w64 h s).lor (h.w64 s)
/-- one card looked at: what is left of the mask, and the card -/
def dropS (o : Nat) (s : Nat × Nat) (c : Nat) : Nat × Nat := (if adjB o s.2 c then landn s.1 (shl1 c) else s.1, c)
theorem drop_bit (o x : Nat) : ∀ (l : List Nat) (m a : Nat), l.Nodup → (∀ c ∈ l, c < 64) → ((l.foldl (dropS o) (m, a)).1.testBit x = true ↔ m.testBit x = true ∧ (x ∈ l → x ∈ keepL o a l))
  | [], m, a, _, _ => by simp
  | c :: r, m, a, hn, h64 => by
    have hn' := List.nodup_cons.1 hn
    rw [List.foldl_cons]
    show (r.foldl (dropS o) (if adjB o a c then landn m (shl1 c) else m, c)).1.testBit x = true ↔ _
    rw [drop_bit o x r _ c hn'.2 fun y hy => h64 y (List.mem_cons_of_mem _ hy)]
    have hk : keepL o a (c :: r) = if adjB o a c then keepL o c r else c :: keepL o c r := rfl
    rw [hk]
    have hc64 := h64 c (List.mem_cons_self ..)
    cases h : adjB o a c
    · simp only [Bool.false_eq_true, if_false, List.mem_cons]
      constructor
      · rintro ⟨h1, h2⟩
        exact ⟨h1, fun h3 => h3.imp id h2⟩
      · rintro ⟨h1, h2⟩
        refine ⟨h1, fun h3 => (h2 (.inr h3)).resolve_left fun e => hn'.1 (e ▸ h3)⟩
    · simp only [if_true, List.mem_cons]
      rw [testBit_landn, testBit_shl1, decide_eq_true hc64, Bool.and_true]
      constructor
      · rintro ⟨h1, h2⟩
        obtain ⟨h3, h4⟩ := Bool.and_eq_true_iff.1 h1
        have hne : ¬ c = x := by simpa using h4
        exact ⟨h3, fun h5 => h2 (h5.resolve_left fun e => hne e.symm)⟩
      · rintro ⟨h1, h2⟩
        have hne : ¬ c = x := fun e => hn'.1 (e ▸ keep_sub o r c x (h2 (.inl e.symm)))
        exact ⟨by rw [h1, decide_eq_false hne]; rfl, fun h3 => h2 (.inr h3)⟩
theorem bitsList_map (m : Nat) : (bitsList m).map Fin.val = (List.range 64).filter m.testBit := by
  unfold bitsList
  have e : List.range 64 = (List.finRange 64).map Fin.val := by decide
  rw [e, List.filter_map]
  rfl
theorem canM_list {t : Tb} (h : TbOk t) : (bitsList (canM t)).map Fin.val = t.cards := by
  rw [bitsList_map]
  unfold Tb.cards
  have e : List.range 64 = List.range 52 ++ [52, 53, 54, 55, 56, 57, 58, 59, 60, 61, 62, 63] := by decide
  rw [e, List.filter_append]
  have h2 : [52, 53, 54, 55, 56, 57, 58, 59, 60, 61, 62, 63].filter (canM t).testBit = [] := by
    rw [List.filter_eq_nil_iff]
    intro x hx hb
    rw [canM_bit] at hb
    have := h.pk.1 _ t.turn_lt _ (legal_iff.1 hb).1
    simp at hx
    omega
  rw [h2, List.append_nil]
  exact List.filter_congr fun x _ => canM_bit t x
/-- the mask of what a search looks at -/
def fewM (t : Tb) : Nat := (t.cards.foldl (dropS (othM t)) (canM t, 52)).1
theorem fewM_bit {t : Tb} (h : TbOk t) (x : Nat) : (fewM t).testBit x = true ↔ x ∈ t.few (othM t) := by
  unfold fewM
  rw [drop_bit _ _ _ _ _ (List.Pairwise.imp (fun h e => by omega) (cards_sorted t)) fun c hc => by have := (mem_cards.1 hc).1; omega, canM_bit]
  constructor
  · rintro ⟨h1, h2⟩
    by_cases h52 : x < 52
    · exact h2 (mem_cards.2 ⟨h52, h1⟩)
    · exact absurd (h.pk.1 _ t.turn_lt _ (legal_iff.1 h1).1) h52
  · intro h
    exact ⟨(few_legal h).2, fun _ => h⟩
end Go.Proofs.YtnbillhodbcfbaaDoor

/- Tables of package dummy over this seat's program: distinct. -/
namespace Go.Proofs.YtnbillhodbcfbaaDoor
open Go.RowKit Go.Sort Go.Shelf
attribute [local go_sem] Oper.semAt_some

/-- what a look at some cards leaves -/
def dropL (o m : Nat) (l : List Nat) : Nat × Nat := l.foldl (dropS o) (m, 52)
theorem dropL_snoc (o m : Nat) (l : List Nat) (x : Nat) : dropL o m (l ++ [x]) = (if adjB o (dropL o m l).2 x then landn (dropL o m l).1 (shl1 x) else (dropL o m l).1, x) := by
  unfold dropL
  rw [List.foldl_append]
  rfl
theorem dropL_snd (o m : Nat) (l : List Nat) : (dropL o m l).2 = 52 ∧ l = [] ∨ (dropL o m l).2 ∈ l := by
  rcases List.eq_nil_or_concat l with rfl | ⟨l', x, rfl⟩
  · exact .inl ⟨rfl, rfl⟩
  · right
    rw [List.concat_eq_append, dropL_snoc]
    exact List.mem_append_right _ (List.mem_cons_self ..)
theorem dropL_w64 (o : Nat) {m : Nat} (hm : W64 m) (l : List Nat) : W64 (dropL o m l).1 := by
  unfold dropL
  suffices h : ∀ (l : List Nat) (s : Nat × Nat), W64 s.1 → W64 (l.foldl (dropS o) s).1 from h l _ hm
  intro l
  induction l with
  | nil => exact fun s h => h
  | cons x l ih =>
    intro s hs
    rw [List.foldl_cons]
    refine ih _ ?_
    show W64 (if adjB o s.2 x then landn s.1 (shl1 x) else s.1)
    split
    · exact hs.landn
    · exact hs
theorem bits_sorted (m : Nat) : ((bitsList m).map Fin.val).Pairwise (· < ·) := by
  rw [bitsList_map]
  exact List.Pairwise.filter _ List.pairwise_lt_range
/-- the last card looked at is less than the next -/
theorem dropL_lt {o m m' : Nat} {pre suf : List (Fin 64)} {x : Fin 64} (h : bitsList m' = pre ++ x :: suf) : (dropL o m (pre.map Fin.val)).2 = 52 ∧ pre = [] ∨ (dropL o m (pre.map Fin.val)).2 < x.val := by
  rcases dropL_snd o m (pre.map Fin.val) with ⟨h1, h2⟩ | h1
  · exact .inl ⟨h1, by simpa using h2⟩
  · right
    have hs := bits_sorted m'
    rw [h, List.map_append, List.pairwise_append] at hs
    exact hs.2.2 _ h1 x.val (by simp)
theorem But.below {B Bm B0 : Nat} {W0 W W' : World} (h : Below B0 W0 W) (hb : But B Bm W W') (h1 : B0 ≤ B) (h2 : B0 ≤ Bm) : Below B0 W0 W' :=
  ⟨hb.os.trans h.os, hb.tape.trans h.tape, hb.output.trans h.output, Nat.le_trans h.size hb.size, fun k hk => (hb.same k (by omega) (by omega)).trans (h.block k hk)⟩
theorem But.row {B Bm b : Nat} {W W' : World} {t : TypeId} {cs : Array Value} (h : Row W b t cs) (hb : But B Bm W W') (h1 : b < B) (h2 : b ≠ Bm) : Row W' b t cs := (hb.same b h1 h2).trans h
theorem But.tab {B Bm : Nat} {W W' : World} (h : Tab W) (hb : But B Bm W W') (h1 : 0 < B) (h2 : 0 ≠ Bm) : Tab W' := fun j hj => by
  have := h j hj
  unfold World.cell? at this ⊢
  rw [hb.same _ h1 h2]
  exact this
theorem othM_w64 {t : Tb} (h : TbOk t) : W64 (othM t) := oth2_w64 h 4
set_option maxHeartbeats 2000000 in
set_option maxRecDepth 10000 in
theorem dm_distinct (t : Tb) (h : TbOk t) (w : World) (hT : Tab w) : Calls Tryd.prog 89 #[.agg (tbA t)] w fun e w' =>
    e = .returned (.int .u64 ((fewM t : Nat) : Int)) ∧ Below w.heap.size w w' := by
  have h2 := h.pk.2
  have htl := t.turn_lt
  have hti : (t.turn : Int) < 4 := by omega
  have HK := Lib.hid h
  have HT := Lib.hid hT
  have HR0 := Lib.hid (Row.new w 76 (tbA t))
  have HB0 := Lib.hid ((Below.refl w.heap.size w).alloc (Nat.le_refl _) (.cells (tbA t) 76))
  refine (callsIn_wide (n := 9)).1 (callsIn_of_wp_marks Tryd.func89 rfl trivial ?_)
  simp only [Tryd.ntmps89, List.size_toArray, List.length_cons, List.length_nil, Nat.reduceAdd, Nat.reduceSub, Array.replicate_succ, Array.replicate_zero, List.push_toArray, List.append_toArray, List.nil_append, List.cons_append]
  refine wpIn_wide.2 ?_
  go_wp2_with fail
  refine (dm_can t HK.out _).mono ?_
  rintro e w1 ⟨rfl, hb1⟩
  have HB1 := Lib.hid (HB0.out.trans (hb1.mono HB0.out.size))
  have HR1 := Lib.hid (HR0.out.later hb1)
  clear hb1 HR0 HB0
  have hcw := canM_w64 h
  have HCM : Hid (canM t = canM t) := Lib.hid rfl
  obtain ⟨m, hm⟩ : ∃ m, canM t = m := ⟨_, rfl⟩
  have HM := Lib.hid hm
  rw [hm] at hcw ⊢
  clear hm HCM
  obtain ⟨b0, hb0⟩ : ∃ b, w.heap.size = b := ⟨_, rfl⟩
  have HB0 := Lib.hid hb0
  rw [hb0] at HR1 ⊢
  clear hb0
  have hlt := HR1.out.lt
  have HR2 := Lib.hid (HR1.out.alloc (.cells #[.int .u64 0] 22))
  have HX2 := Lib.hid (Row.new w1 22 #[.int .u64 ((oth1 t 0 : Nat) : Int)])
  have HB2 := Lib.hid (HB1.out.alloc HB1.out.size (.cells #[.int .u64 ((oth1 t 0 : Nat) : Int)] 22))
  have HT2 := Lib.hid (HT.out.below HT.out.pos HB2.out)
  have HL := Lib.hid (show w.heap.size ≤ w1.heap.size from HB1.out.size)
  have HL0 := Lib.hid (show b0 < w1.heap.size from hlt)
  clear hlt h htl hti
  go_upto_region 3 with fail
  simp only [show ((oth1 t 0 : Nat) : Int) = 0 from rfl] at HX2 HB2 HT2
  obtain ⟨b4, hb4⟩ : ∃ b, w1.heap.size = b := ⟨_, rfl⟩
  rw [hb4] at HX2 HL HL0 ⊢
  clear hb4 hT HB1 HR1
  generalize w1.alloc (.cells #[.int .u64 0] 22) = W2 at *
  have cl := HR2.out.cell 5
  simp only [List.getElem?_toArray, List.getElem?_cons_zero, List.getElem?_cons_succ] at cl
  obtain ⟨n, hn⟩ : ∃ n, t.cs.length = n := ⟨_, rfl⟩
  have HN := Lib.hid hn
  rw [hn] at cl h2
  clear hn
  have HNI := Lib.hid h2
  go_wp2_with fail
  clear cl h2
  go_loopw [5, 15] (fun _ i wr => ∃ (k : Nat), k ≤ n ∧ i = .int .u8 (k : Int) ∧ Row wr b4 22 #[.int .u64 ((oth1 t k : Nat) : Int)] ∧ Below b4 W2 wr) (fun _ i _ => n - (intOf i).toNat)
  case atStart => exact ⟨0, by omega, rfl, HX2.out, Below.refl _ _⟩
  case round =>
    obtain ⟨k, hk, rfl, hX, hB⟩ := hrel
    have HXk := Lib.hid hX
    have HBk := Lib.hid hB
    have h2 := HNI.out
    by_cases hlt : k < n
    · have hdk : decide ((k : Int) < (n : Int)) = true := by simp; omega
      have hR := HR2.out.below HL0.out hB
      have e4 := hX.cell 0
      have e0 := (hR.cell (6 + k)).trans (tbA_c t k (by omega))
      have hx := HK.out.getD k
      have how := oth1_w64 (t := t) k
      have HST : Hid (oth1 t (k + 1) = lor (oth1 t k) (shl1 (t.cs.getD k 0))) := Lib.hid rfl
      obtain ⟨o, ho⟩ : ∃ o, oth1 t k = o := ⟨_, rfl⟩
      obtain ⟨x, hxx⟩ : ∃ x, t.cs.getD k 0 = x := ⟨_, rfl⟩
      simp only [List.getElem?_toArray, List.getElem?_cons_zero] at e4
      rw [ho] at e4 how HST
      rw [hxx] at e0 hx HST
      clear ho hxx hX hB hR
      have hrs := run_shl64 x .u8
      have hor := run_or64 o (shl1 x) how (W64.shl1 x)
      have hki : (k : Int) < 4 := by omega
      have f0 := fun dd os => cell_regrown e0 dd os
      have f4 := fun dd os => cell_regrown e4 dd os
      go_wp2_with fail
      refine wp_region_below_tail 7 (by kernel_rfl) (by kernel_rfl) ?_
      repeat (first | go_big_quiet_step (fail) | quiet_step (fail))
      refine wpQuiet_nil ?_
      rintro _ ⟨q, rfl⟩
      have HX5 := Lib.hid (HXk.out.later (below_regrown wr q.d q.os))
      have HB5 := Lib.hid (HBk.out.trans ((below_regrown wr q.d q.os).mono (Nat.le_of_lt HXk.out.lt)))
      generalize grow (redrawn wr q.d) q.os = wa at *
      clear e0 e4 f0 f4 hor hrs HXk HBk
      have f4 := HX5.out.frozen 0
      have e4 := HX5.out.cell 0
      simp only [List.getElem?_toArray, List.getElem?_cons_zero] at e4
      go_wp2_with fail
      exact ⟨⟨k + 1, by omega, by simp, by rw [HST.out]; exact HX5.out.set 0 _, HB5.out.setCell (p := ⟨b4, 0, none⟩) (Nat.le_refl _) _⟩, by simp [intOf]; omega⟩
    · obtain rfl : k = n := by omega
      have hd : decide ((k : Int) < (k : Int)) = false := by simp
      have HRk := Lib.hid (HR2.out.below HL0.out hB)
      have e0 := HRk.out.cell 0
      have e1 := HRk.out.cell 1
      have e2 := HRk.out.cell 2
      have e3 := HRk.out.cell 3
      simp only [List.getElem?_toArray, List.getElem?_cons_zero, List.getElem?_cons_succ] at e0 e1 e2 e3
      clear hX hB
      go_wp2_with fail
      clear e0 e1 e2 e3
      have HXk : Hid (Row wr b4 22 #[.int .u64 ((oth2 t 0 : Nat) : Int)]) := Lib.hid (by have := HXk.out; rw [← HN.out] at this; exact this)
      go_loopw [6, 7, 28] (fun _ _ i wr2 => ∃ (s : Nat), s ≤ 4 ∧ i = .int .i64 (s : Int) ∧ Row wr2 b4 22 #[.int .u64 ((oth2 t s : Nat) : Int)] ∧ Below b4 wr wr2) (fun _ _ i _ => 4 - (intOf i).toNat)
      case atStart => exact ⟨0, by omega, rfl, HXk.out, Below.refl _ _⟩
      case round =>
        obtain ⟨s, hs, rfl, hX, hB⟩ := hrel
        have HXs := Lib.hid hX
        have HBs := Lib.hid hB
        by_cases hs4 : s < 4
        · have hds : decide ((s : Int) < 4) = true := by simp; omega
          have hsi : (s : Int) < 4 := by omega
          have HRs := Lib.hid (HRk.out.below HL0.out hB)
          have hidx : ∀ W, (Instr.index 24 (.agg #[.int .u64 (t.h 0 : Int), .int .u64 (t.h 1 : Int), .int .u64 (t.h 2 : Int), .int .u64 (t.h 3 : Int)]) (.int .i64 (s : Int))).run Tryd.prog W = .ok (.int .u64 (t.h s : Int)) W := by
            intro W
            rcases (show s = 0 ∨ s = 1 ∨ s = 2 ∨ s = 3 by omega) with rfl | rfl | rfl | rfl <;> rfl
          have e4 := hX.cell 0
          simp only [List.getElem?_toArray, List.getElem?_cons_zero] at e4
          have hsw := HK.out.w64 s
          have how := oth2_w64 HK.out s
          have htl := t.turn_lt
          have HST : Hid (oth2 t (s + 1) = if s = t.turn then oth2 t s else lor (oth2 t s) (t.h s)) := Lib.hid rfl
          have hor := run_or64 (oth2 t s) (t.h s) how hsw
          obtain ⟨o, ho⟩ : ∃ o, oth2 t s = o := ⟨_, rfl⟩
          have ho2 := Lib.hid ho
          rw [ho] at e4 how HST hor
          clear ho hX hB
          go_upto_region 11 with fail
          go_wp2_with (refine wpList_load_row rfl 76 (.tmp 1) rfl b0 rfl 76 (tbA t) (0, 0) _ HRs.out Tryd.underlying76 rfl (by rw [show (tbA t).size = 10 from rfl]; exact size_tb) ?_)
          refine (dm_turn t HK.out _).mono ?_
          rintro e w5 ⟨rfl, hb5⟩
          have HX5 := Lib.hid (HXs.out.later hb5)
          have HB5 := Lib.hid (HBs.out.trans (hb5.mono (Nat.le_of_lt HXs.out.lt)))
          clear e4 hb5
          have e4 := HX5.out.cell 0
          have f4 := HX5.out.frozen 0
          rw [ho2.out] at e4
          simp only [List.getElem?_toArray, List.getElem?_cons_zero] at e4
          by_cases hst : s = t.turn
          · rw [if_pos hst] at HST
            have hd : ((s : Int) != (t.turn : Int)) = false := by simp; omega
            clear hst
            go_wp2_with fail
            exact ⟨⟨s + 1, by omega, by simp, by rw [HST.out, ← ho2.out]; exact HX5.out, HB5.out⟩, by simp [intOf]; omega⟩
          · rw [if_neg hst] at HST
            have hd : ((s : Int) != (t.turn : Int)) = true := by rw [bne_iff_ne]; omega
            clear hst
            go_wp2_with fail
            exact ⟨⟨s + 1, by omega, by simp, by rw [HST.out]; exact HX5.out.set 0 _, HB5.out.setCell (p := ⟨b4, 0, none⟩) (Nat.le_refl _) _⟩, by simp [intOf]; omega⟩
        · obtain rfl : s = 4 := by omega
          simp only [show ((4 : Nat) : Int) = 4 from rfl]
          have HX5 : Hid (Row wr b4 22 #[.int .u64 ((othM t : Nat) : Int)]) := HXs
          clear hX hB HXs HXk HX2
          have HWW : Hid (Below b0 w wr) := Lib.hid (by
            have h1 := HL.out
            have h2 := HL0.out
            have h3 := HB0.out
            exact h3 ▸ (HB2.out.trans (HBk.out.mono (by omega))).trans (HBs.out.mono (by omega)))
          have HTW := Lib.hid (HT.out.below (by rw [← HB0.out]; exact HT.out.pos) HWW.out)
          have HR5 := Lib.hid (HRk.out.below HL0.out HBs.out)
          have HLX := Lib.hid HX5.out.lt
          have HDG := Lib.hid (show 0 < b0 by rw [← HB0.out]; exact HT.out.pos)
          clear HB2 HT2 HR2 HBk HBs HRk HNI HN
          go_upto_region 15 with fail
          obtain ⟨b8, hb8⟩ : ∃ b, wr.heap.size = b := ⟨_, rfl⟩
          have H8 : Hid (Row ((wr.alloc (.cells #[.int .u64 (m : Int)] 22)).alloc (.cells #[.int .u8 52] 5)) b8 22 #[.int .u64 (m : Int)]) := Lib.hid (by rw [← hb8]; exact (Row.new wr _ _).alloc _)
          have H9 : Hid (Row ((wr.alloc (.cells #[.int .u64 (m : Int)] 22)).alloc (.cells #[.int .u8 52] 5)) (b8 + 1) 5 #[.int .u8 52]) := Lib.hid (by rw [← hb8]; exact Row.new1 wr _ _ _)
          have H4 : Hid (Row ((wr.alloc (.cells #[.int .u64 (m : Int)] 22)).alloc (.cells #[.int .u8 52] 5)) b4 22 #[.int .u64 ((othM t : Nat) : Int)]) := Lib.hid ((HX5.out.alloc _).alloc _)
          have HBa : Hid (Below b8 wr ((wr.alloc (.cells #[.int .u64 (m : Int)] 22)).alloc (.cells #[.int .u8 52] 5))) := Lib.hid (by rw [← hb8]; exact ((Below.refl _ _).alloc (Nat.le_refl _) _).alloc (by simp) _)
          have HSZ : Hid (((wr.alloc (.cells #[.int .u64 (m : Int)] 22)).alloc (.cells #[.int .u8 52] 5)).heap.size = b8 + 2) := Lib.hid (by rw [← hb8]; simp)
          have H48 : Hid (b4 < b8) := Lib.hid (by rw [← hb8]; exact HLX.out)
          rw [hb8]
          clear hb8 HLX
          generalize (wr.alloc (.cells #[.int .u64 (m : Int)] 22)).alloc (.cells #[.int .u8 52] 5) = W8 at *
          go_upto_region 16 with (refine (dm_cards m _).mono ?_; rintro e w9 ⟨rfl, rfl⟩)
          have HO := Lib.hid (othM_w64 HK.out)
          have HMW := Lib.hid hcw
          have HLO : Hid (∀ pre suf x, bitsList m = pre ++ x :: suf → (x : Fin 64).val < 52) := Lib.hid (by
            intro pre suf x hx
            have : x.val ∈ t.cards := by rw [← canM_list HK.out, HM.out, hx]; simp
            exact (mem_cards.1 this).1)
          have HFW : Hid (fewM t = (dropL (othM t) m ((bitsList m).map Fin.val)).1) := Lib.hid (by
            unfold fewM dropL
            rw [← HM.out, canM_list HK.out])
          obtain ⟨o, ho⟩ : ∃ o, othM t = o := ⟨_, rfl⟩
          rw [ho] at H4 HO HFW
          clear ho
          refine (wpIn_wide (n := 9)).1 ?_
          refine range_dm W8.heap.size m (by decide) rfl (by simp) hcw (Row.new W8 _ _)
            (fun pre W => Row W b8 22 #[.int .u64 ((dropL o m (pre.map Fin.val)).1 : Int)] ∧ Row W (b8 + 1) 5 #[.int .u8 ((dropL o m (pre.map Fin.val)).2 : Int)] ∧ Row W b4 22 #[.int .u64 (o : Int)] ∧ Below b0 w W)
            (fun _ _ _ _ => False) ?shut (fun _ _ _ _ _ h _ => h.elim) ?tab ?start ?body ?done ?stop
          case shut =>
            rintro pre A B ⟨i8, i9, i4, iB⟩ hb
            have h1 := HSZ.out
            have h2 := H48.out
            have h3 := HL0.out
            rw [World.size_alloc, h1] at hb
            exact ⟨hb.row i8 (by omega) (by omega), hb.row i9 (by omega) (by omega), hb.row i4 (by omega) (by omega), hb.below iB (by omega) (by omega)⟩
          case tab =>
            rintro pre A ⟨-, -, -, iB⟩
            exact HT.out.below HDG.out iB
          case start =>
            have h1 := HSZ.out
            have h2 := H48.out
            have h3 := HL0.out
            exact ⟨H8.out.alloc _, H9.out.alloc _, H4.out.alloc _, (HWW.out.trans (HBa.out.mono (by omega))).alloc (by omega) _⟩
          case body =>
            rintro l pre suf x W hx ⟨i8, i9, i4, iB⟩ hsz
            simp only [inFrame, List.setIfInBounds_toArray, List.set_cons_succ, List.set_cons_zero]
            have hx52 := HLO.out _ _ _ hx
            have hlast := dropL_lt (o := o) (m := m) hx
            have hmp := dropL_w64 o HMW.out (pre.map Fin.val)
            have HST : Hid (dropL o m ((pre.map Fin.val) ++ [x.val]) = (if adjB o (dropL o m (pre.map Fin.val)).2 x.val then landn (dropL o m (pre.map Fin.val)).1 (shl1 x.val) else (dropL o m (pre.map Fin.val)).1, x.val)) := Lib.hid (by
              exact dropL_snoc o m _ _)
            have h8 := i8.cell 0
            have h9 := i9.cell 0
            have h4 := i4.cell 0
            simp only [List.getElem?_toArray, List.getElem?_cons_zero] at h8 h9 h4
            have how := HO.out
            have HIB := Lib.hid iB
            have HI8 := Lib.hid i8
            have HI9 := Lib.hid i9
            have HI4 := Lib.hid i4
            have f8 := i8.frozen 0
            have f9 := i9.frozen 0
            clear iB i8 i9 i4 hx
            obtain ⟨mp, hmp2⟩ : ∃ k, (dropL o m (pre.map Fin.val)).1 = k := ⟨_, rfl⟩
            obtain ⟨a, ha⟩ : ∃ k, (dropL o m (pre.map Fin.val)).2 = k := ⟨_, rfl⟩
            rw [hmp2] at h8 hmp HI8 HST
            rw [ha] at h9 hlast HI9 HST
            clear hmp2 ha
            obtain ⟨c, hc⟩ : ∃ c, x.val = c := ⟨_, rfl⟩
            have HC := Lib.hid hc
            rw [hc] at hx52 hlast HST ⊢
            clear hc
            have ha64 : a < 64 := by omega
            have hb89 : b8 ≠ b8 + 1 := by omega
            obtain ⟨qa, hqa⟩ : ∃ q, a / 13 = q := ⟨_, rfl⟩
            obtain ⟨qc, hqc⟩ : ∃ q, c / 13 = q := ⟨_, rfl⟩
            have hda : (a : Int) / 13 = (qa : Int) := by omega
            have hdc : (c : Int) / 13 = (qc : Int) := by omega
            have hrs := run_shl64 c .u8
            have hra := run_shl64 a .u8
            have hsz8 := HSZ.out
            have h48 := H48.out
            have h04 := HL0.out
            by_cases hq : a / 13 = c / 13
            · have hac : a < c := by
                rcases hlast with ⟨h, -⟩ | h
                · omega
                · exact h
              have hqd : ((qa : Int) == (qc : Int)) = true := by rw [beq_iff_eq]; omega
              have ec : shl1 c = 2 ^ c := by unfold shl1; rw [if_pos (by omega)]
              have ea : shl1 a = 2 ^ a := by unfold shl1; rw [if_pos ha64]
              have hle : 2 ^ a ≤ 2 ^ c := Nat.pow_le_pow_right (by omega) (by omega)
              have hcl := W64.shl1 c
              have HADJ : Hid (adjB o a c = (land o (shl1 c - shl1 a) == 0)) := Lib.hid (by unfold adjB; rw [show (a / 13 == c / 13) = true by rw [beq_iff_eq]; exact hq, ec, ea]; rfl)
              rw [← ec, ← ea] at hle
              have hdl : W64 (shl1 c - shl1 a) := W64.of_lt (by have := hcl.lt; omega)
              have hsub : IntKind.u64.wrap ((shl1 c : Int) - (shl1 a : Int)) = ((shl1 c - shl1 a : Nat) : Int) := by have := hdl.lt; rw [IntKind.wrap_u64]; omega
              have hand := run_and64 o (shl1 c - shl1 a) how hdl
              have handn := run_andn64 mp (shl1 c) hmp hcl
              obtain ⟨r, hr⟩ : ∃ r, land o (shl1 c - shl1 a) = r := ⟨_, rfl⟩
              rw [hr] at HADJ hand
              clear hr hdl hle ec ea hac hlast hq hqa hqc
              generalize shl1 c - shl1 a = d at *
              by_cases hr0 : r = 0
              · have hrd : ((r : Int) == 0) = true := by rw [beq_iff_eq]; omega
                have HA2 : Hid (adjB o a c = true) := Lib.hid (by rw [HADJ.out, hr0]; rfl)
                clear hr0
                gi_wp2_with fail
                refine ⟨((Stays.refl (· = b8 + 2) (b8 + 2 + 1) W).setCell (p := ⟨b8, 0, none⟩) (by show ¬ (b8 = b8 + 2); omega) (by show b8 < _; omega) _).setCell (p := ⟨b8 + 1, 0, none⟩) (by show ¬ (b8 + 1 = b8 + 2); omega) (by show b8 + 1 < _; omega) _, ?_⟩
                rw [HC.out, HST.out, HA2.out]
                simp only [if_true]
                exact ⟨(HI8.out.set 0 _).other (i := 0) (show b8 ≠ b8 + 1 by omega), (HI9.out.other (i := 0) (show b8 + 1 ≠ b8 by omega)).set 0 _, (HI4.out.other (i := 0) (show b4 ≠ b8 by omega)).other (i := 0) (show b4 ≠ b8 + 1 by omega), (HIB.out.setCell (p := ⟨b8, 0, none⟩) (show b0 ≤ b8 by omega) _).setCell (p := ⟨b8 + 1, 0, none⟩) (show b0 ≤ b8 + 1 by omega) _⟩
              · have hrd : ((r : Int) == 0) = false := by rw [beq_eq_false_iff_ne]; omega
                have HA2 : Hid (adjB o a c = false) := Lib.hid (by rw [HADJ.out, beq_eq_false_iff_ne]; exact hr0)
                have hr0i : ¬ ((r : Int) = 0) := by omega
                have hrd2 : decide ((r : Int) = 0) = false := by simp; omega
                gi_wp2_with fail
                refine ⟨(Stays.refl (· = b8 + 2) (b8 + 2 + 1) W).setCell (p := ⟨b8 + 1, 0, none⟩) (by show ¬ (b8 + 1 = b8 + 2); omega) (by show b8 + 1 < _; omega) _, ?_⟩
                rw [HC.out, HST.out, HA2.out]
                simp only [Bool.false_eq_true, if_false]
                exact ⟨HI8.out.other (i := 0) (show b8 ≠ b8 + 1 by omega), HI9.out.set 0 _, HI4.out.other (i := 0) (show b4 ≠ b8 + 1 by omega), HIB.out.setCell (p := ⟨b8 + 1, 0, none⟩) (show b0 ≤ b8 + 1 by omega) _⟩
            · have hqd : ((qa : Int) == (qc : Int)) = false := by rw [beq_eq_false_iff_ne]; omega
              have HA2 : Hid (adjB o a c = false) := Lib.hid (by unfold adjB; rw [show (a / 13 == c / 13) = false by rw [beq_eq_false_iff_ne]; exact hq]; rfl)
              clear hq hlast hqa hqc
              gi_wp2_with fail
              refine ⟨(Stays.refl (· = b8 + 2) (b8 + 2 + 1) W).setCell (p := ⟨b8 + 1, 0, none⟩) (by show ¬ (b8 + 1 = b8 + 2); omega) (by show b8 + 1 < _; omega) _, ?_⟩
              rw [HC.out, HST.out, HA2.out]
              simp only [Bool.false_eq_true, if_false]
              exact ⟨HI8.out.other (i := 0) (show b8 ≠ b8 + 1 by omega), HI9.out.set 0 _, HI4.out.other (i := 0) (show b4 ≠ b8 + 1 by omega), HIB.out.setCell (p := ⟨b8 + 1, 0, none⟩) (show b0 ≤ b8 + 1 by omega) _⟩
          case done =>
            rintro D W hD ⟨i8, i9, i4, iB⟩ hK
            have h8 := i8.cell 0
            simp only [List.getElem?_toArray, List.getElem?_cons_zero] at h8
            have HIB := Lib.hid iB
            clear iB i8 i9 i4
            go_wp2_with fail
            refine ⟨by simp, .inl ⟨_, _, rfl, run_takeDeferred hK, ?_⟩⟩
            refine ⟨_, results_tmp rfl _ _ _, by rw [HFW.out]; rfl, ?_⟩
            rw [World.size_alloc, HSZ.out] at hD
            have h48 := H48.out
            have h04 := HL0.out
            rw [HB0.out]
            exact HIB.out.trans (below_putObj _ (by omega) hK)
          case stop => exact fun _ _ _ _ _ _ _ _ h _ => h.elim
end Go.Proofs.YtnbillhodbcfbaaDoor
