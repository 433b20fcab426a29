/- DmF, DmG, DmM, DmN, DmO in one text. -/
import Derived.Test.YtnbillhodbcfbaaDoorDmSh
import Derived.Test.YtnbillhodbcfbaaDoorMOnes
import Derived.DeepKeys4
import Derived.Maps.OwnSet
import Derived.MapViews

/- Plain: the list of what a search looks at. -/
namespace Go.Proofs.YtnbillhodbcfbaaDoor
open Go.RowKit Go.Sort Go.Shelf

theorem keep_sublist (o : Nat) : ∀ (l : List Nat) (a : Nat), (keepL o a l).Sublist l
  | [], _ => List.Sublist.slnil
  | c :: r, a => by
    unfold keepL
    split
    · exact (keep_sublist o r c).cons _
    · exact (keep_sublist o r c).cons_cons _
theorem fewM_w64 {t : Tb} (h : TbOk t) : W64 (fewM t) := w64_of_bits fun c hc => by
  have := few_legal ((fewM_bit h c).1 hc)
  omega
theorem fewM_list {t : Tb} (h : TbOk t) : (bitsList (fewM t)).map Fin.val = t.few (othM t) := by
  refine sorted_ext (bits_sorted _) ?_ fun c => (mem_bits (fewM_w64 h)).trans (fewM_bit h c)
  exact List.Pairwise.sublist (keep_sublist _ _ _) (cards_sorted t)
end Go.Proofs.YtnbillhodbcfbaaDoor

/- side.better over this seat's program. -/
namespace Go.Proofs.YtnbillhodbcfbaaDoor
open Go.RowKit Go.Sort Go.Shelf

def betterI (s : Nat) (a b : Int) : Int := if s = 0 then max a b else min a b
theorem dm_better (s : Nat) (hs : s < 2) (a b : Int) (w : World) : Calls Tryd.prog 87 #[.int .u8 (s : Int), .int .i64 a, .int .i64 b] w fun e w' => e = .returned (.int .i64 (betterI s a b)) ∧ w = w' := by
  obtain ⟨r, hr⟩ : ∃ r, betterI s a b = r := ⟨_, rfl⟩
  have HR := Lib.hid hr
  rw [hr]
  clear hr
  rcases (show s = 0 ∨ s = 1 by omega) with rfl | rfl
  · go_enter Tryd.func87, Tryd.ntmps87
    go_wp2
    all_goals
      go_ret
      refine ⟨?_, rfl⟩
      have h : max a b = r := HR.out
      show Ending.returned (.int .i64 _) = Ending.returned (.int .i64 r)
      congr 2
      omega
  · go_enter Tryd.func87, Tryd.ntmps87
    go_wp2
    all_goals
      go_ret
      refine ⟨?_, rfl⟩
      have h : min a b = r := HR.out
      show Ending.returned (.int .i64 _) = Ending.returned (.int .i64 r)
      congr 2
      omega
theorem dm_newSolver (tr : Nat) (w : World) : Calls Tryd.prog 36 #[.int .u8 (tr : Int)] w fun e w' =>
    e = .returned (.pointer (some ⟨w.heap.size + 1, 0, none⟩)) ∧ w' = (w.alloc (.map #[] 0)).alloc (.cells #[.int .u8 (tr : Int), .map (some w.heap.size)] 108) := by
  go_enter Tryd.func36, Tryd.ntmps36
  have hmm : ∀ W, (Instr.makeMap 106 none).run Tryd.prog W = .ok (.map (some W.heap.size)) (W.alloc (.map #[] 0)) := fun W => run_makeMap _ W
  go_wp2
  go_ret
  refine ⟨?_, ?_⟩ <;> simp
end Go.Proofs.YtnbillhodbcfbaaDoor

/- The map of a solver: keys and elements. -/
namespace Go.Proofs.YtnbillhodbcfbaaDoor
open Go.RowKit Go.Sort Go.Shelf Go.Maps Go.WideMaps

theorem laidOut_dm : laidOutB Tryd.prog = true := by kernel_rfl
theorem key_row : (130 : TypeId) < Tryd.prog.types.size := of_decide_eq_true (by kernel_rfl)
theorem key_law : KeyLaw Tryd.prog 130 := deep_law_laid laidOut_dm (m := 3) (by omega) key_row (by kernel_rfl) (by kernel_rfl)
theorem key_keyed : Keyed Tryd.prog 130 := Keyed.of_law key_law
/-- a key, and two bounds -/
def keyV (h : Nat → Nat) (ld : Nat) : Value := .agg #[.int .u64 (h 0 : Int), .int .u64 (h 1 : Int), .int .u64 (h 2 : Int), .int .u64 (h 3 : Int), .int .u8 (ld : Int)]
def bndV (a b : Int) : Value := .agg #[.int .i64 a, .int .i64 b]
def bndR (v : Value) : Option (DataW Unit × List MemPlace) :=
  match v with
  | .agg ⟨[.int .i64 a, .int .i64 b]⟩ => some (.agg [.lit (.int .i64 a), .lit (.int .i64 b)], [])
  | _ => none
theorem bndR_at (a b : Int) : bndR (bndV a b) = some (.agg [.lit (.int .i64 a), .lit (.int .i64 b)], []) := rfl
theorem cells_key : Tryd.prog.cellsOf 130 = 5 := by kernel_rfl
theorem cells_deal : Tryd.prog.cellsOf 24 = 4 := by kernel_rfl
theorem cells_u64 : Tryd.prog.cellsOf 22 = 1 := by kernel_rfl
theorem cells_u8 : Tryd.prog.cellsOf 5 = 1 := by kernel_rfl
theorem lits_u64 (d m : Nat) (hm : W64 m) : Tryd.prog.keyLits (d + 1) 22 [.int .u64 (m : Int)] = some [.int .u64 (m : Int)] := by
  have hw : (Lit.int .u64 (m : Int)).wf = true := by
    have := hm.lt
    show (decide ((0 : Int) ≤ (m : Int)) && decide ((m : Int) ≤ 18446744073709551615)) = true
    simp
    omega
  unfold Program.keyLits
  simp only [Tryd.underlying22]
  rw [if_pos ⟨trivial, hw⟩]
theorem lits_u8 (d m : Nat) (hm : m < 256) : Tryd.prog.keyLits (d + 1) 5 [.int .u8 (m : Int)] = some [.int .u8 (m : Int)] := by
  have hw : (Lit.int .u8 (m : Int)).wf = true := by
    show (decide ((0 : Int) ≤ (m : Int)) && decide ((m : Int) ≤ 255)) = true
    simp
    omega
  unfold Program.keyLits
  simp only [Tryd.underlying5]
  rw [if_pos ⟨trivial, hw⟩]
theorem lits_deal (d : Nat) (h : Nat → Nat) (hw : ∀ i, i < 4 → W64 (h i)) : Tryd.prog.keyLits (d + 2) 24 [.int .u64 (h 0 : Int), .int .u64 (h 1 : Int), .int .u64 (h 2 : Int), .int .u64 (h 3 : Int)] = some [.int .u64 (h 0 : Int), .int .u64 (h 1 : Int), .int .u64 (h 2 : Int), .int .u64 (h 3 : Int)] := by
  have l0 := lits_u64 d (h 0) (hw 0 (by decide))
  have l1 := lits_u64 d (h 1) (hw 1 (by decide))
  have l2 := lits_u64 d (h 2) (hw 2 (by decide))
  have l3 := lits_u64 d (h 3) (hw 3 (by decide))
  unfold Program.keyLits
  simp only [Tryd.underlying24, cells_deal, cells_u64]
  simp [List.range_succ, l0, l1, l2, l3]
theorem lits_key (d : Nat) (h : Nat → Nat) (ld : Nat) (hw : ∀ i, i < 4 → W64 (h i)) (hl : ld < 256) : Tryd.prog.keyLits (d + 3) 130 [.int .u64 (h 0 : Int), .int .u64 (h 1 : Int), .int .u64 (h 2 : Int), .int .u64 (h 3 : Int), .int .u8 (ld : Int)] = some [.int .u64 (h 0 : Int), .int .u64 (h 1 : Int), .int .u64 (h 2 : Int), .int .u64 (h 3 : Int), .int .u8 (ld : Int)] := by
  have l0 := lits_deal d h hw
  have l1 := lits_u8 (d + 1) ld hl
  unfold Program.keyLits
  simp only [Tryd.underlying130, cells_key]
  simp [cells_deal, cells_u8, l0, l1]
theorem size_types : ∃ d, Tryd.prog.types.size + 1 = d + 3 := ⟨Tryd.prog.types.size - 2, by
  have h : 103 < Tryd.prog.types.size := of_decide_eq_true (by kernel_rfl)
  omega⟩
/-- what a key is told as -/
def keyL (h : Nat → Nat) (ld : Nat) : Lit := .string (keyBytes [.int .u64 (h 0 : Int), .int .u64 (h 1 : Int), .int .u64 (h 2 : Int), .int .u64 (h 3 : Int), .int .u8 (ld : Int)])
theorem keyOf_key (h : Nat → Nat) (ld : Nat) (hw : ∀ i, i < 4 → W64 (h i)) (hl : ld < 256) : keyOf Tryd.prog 130 (keyV h ld) = some (keyL h ld) := by
  obtain ⟨d, hd⟩ := size_types
  have hk := lits_key d h ld hw hl
  have h1 : Tryd.prog.keyType 130 = true := by kernel_rfl
  have h2 : Value.formed Tryd.prog 130 (keyV h ld) = true := by
    unfold Value.formed keyV
    simp only [Tryd.underlying130, cells_key]
    rfl
  have h3 : (keyV h ld).cells.toList = [.int .u64 (h 0 : Int), .int .u64 (h 1 : Int), .int .u64 (h 2 : Int), .int .u64 (h 3 : Int), .int .u8 (ld : Int)] := rfl
  unfold keyOf
  simp only [Tryd.underlying130]
  rw [h1, h2, h3, hd, hk]
  rfl
theorem zero_bnd (w : World) : (zeroValue 132).run Tryd.prog w = .ok (bndV 0 0) w := by kernel_rfl
/-- a key belongs to one position -/
theorem keyL_inj {h h' : Nat → Nat} {ld ld' : Nat} (hw : ∀ i, i < 4 → W64 (h i)) (hl : ld < 256) (hw' : ∀ i, i < 4 → W64 (h' i)) (hl' : ld' < 256) (e : keyL h ld = keyL h' ld') : (∀ i, i < 4 → h i = h' i) ∧ ld = ld' := by
  have k1 := keyOf_key h ld hw hl
  have k2 := keyOf_key h' ld' hw' hl'
  rw [← e] at k2
  have ev := key_keyed.inj k1 k2
  unfold keyV at ev
  simp only [Value.agg.injEq, Array.mk.injEq, List.cons.injEq, Value.int.injEq, true_and, and_true] at ev
  obtain ⟨e0, e1, e2, e3, e4⟩ := ev
  refine ⟨fun i hi => ?_, by omega⟩
  rcases (show i = 0 ∨ i = 1 ∨ i = 2 ∨ i = 3 by omega) with rfl | rfl | rfl | rfl <;> omega
def bndD (a b : Int) : DataW Unit := .agg [.lit (.int .i64 a), .lit (.int .i64 b)]
theorem val_congr {h h' : Nat → Nat} (tr n ld : Nat) (hh : In52 h) (hh' : In52 h') (e : ∀ i, i < 4 → h i = h' i) : val tr n ⟨h, ld, []⟩ = val tr n ⟨h', ld, []⟩ := by
  refine (iso_val (σ := id) n (t := ⟨h, ld, []⟩) (t' := ⟨h', ld, []⟩) (tr := tr) (tr' := tr) ⟨rfl, rfl, fun s hs c' => ?_, fun s s' c c' _ _ h => h, fun s s' c c' _ _ => Iff.rfl, fun s c _ => Iff.rfl, fun s s' c c' _ _ _ _ => Iff.rfl⟩ ⟨hh, by simp⟩ ⟨hh', by simp⟩).symm
  show (h' s).testBit c' = true ↔ ∃ c, (h s).testBit c = true ∧ id c = c'
  rw [← e s hs]
  exact ⟨fun hb => ⟨c', hb, rfl⟩, fun ⟨c, hb, hc⟩ => by cases hc; exact hb⟩
/-- what is known is right -/
def Good (tr : Nat) (D : DataW Unit) : Prop :=
  ∀ h ld, In52 h → Uniq ⟨h, ld, []⟩ → ld < 4 → has D (keyL h ld) = true → ∃ a b : Int, D.atKey (keyL h ld) (bndD 0 0) = bndD a b ∧ 0 ≤ a ∧ a ≤ val tr (4 * pop (h 0)) ⟨h, ld, []⟩ ∧ (val tr (4 * pop (h 0)) ⟨h, ld, []⟩ : Int) ≤ b ∧ b ≤ (pop (h 0) : Int)
theorem Good.nil (tr : Nat) : Good tr (.map []) := fun h ld _ _ _ hh => by cases hh
theorem Good.put {tr : Nat} {D : DataW Unit} (hg : Good tr D) (hD : IsMap D) {h : Nat → Nat} {ld : Nat} (hh : In52 h) (hu : Uniq ⟨h, ld, []⟩) (hl : ld < 4) {a b : Int} (h1 : 0 ≤ a) (h2 : a ≤ val tr (4 * pop (h 0)) ⟨h, ld, []⟩) (h3 : (val tr (4 * pop (h 0)) ⟨h, ld, []⟩ : Int) ≤ b) (h4 : b ≤ (pop (h 0) : Int)) : Good tr (D.put (keyL h ld) (bndD a b)) := by
  intro h' ld' hh' hu' hl' hhas
  by_cases e : keyL h' ld' = keyL h ld
  · obtain ⟨e1, rfl⟩ := keyL_inj (fun i hi => hh'.w64 hi) (by omega) (fun i hi => hh.w64 hi) (by omega) e
    refine ⟨a, b, ?_, h1, ?_, ?_, by rw [e1 0 (by decide)]; exact h4⟩
    · rw [e]
      exact atKey_put_same hD (key_keyed.key (keyOf_key h ld' (fun i hi => hh.w64 hi) (by omega))) _ _
    · rw [e1 0 (by decide), val_congr tr _ ld' hh' hh e1]; exact h2
    · rw [e1 0 (by decide), val_congr tr _ ld' hh' hh e1]; exact h3
  · rw [has_put_other e] at hhas
    rw [atKey_put_other e]
    exact hg h' ld' hh' hu' hl' hhas
end Go.Proofs.YtnbillhodbcfbaaDoor

/- Plain: tables whose hands are even; the entries of the map. -/
namespace Go.Proofs.YtnbillhodbcfbaaDoor
open Go.RowKit Go.Sort Go.Shelf

theorem cnt_len (m : Nat) : ∀ k, cnt m k = ((List.range k).filter m.testBit).length
  | 0 => rfl
  | k + 1 => by
    rw [cnt, cnt_len m k, List.range_succ, List.filter_append, List.length_append, List.filter_cons]
    cases m.testBit k <;> rfl
theorem pop_len (m : Nat) : pop m = ((bitsList m).map Fin.val).length := by rw [bitsList_map]; exact cnt_len m 64
theorem pop_same {m m' : Nat} (hw : W64 m) (hw' : W64 m') (σ : Nat → Nat) (hm : ∀ a b, a < b → m.testBit a = true → m.testBit b = true → σ a ≠ σ b) (hi : ∀ x, m'.testBit x = true ↔ ∃ c, m.testBit c = true ∧ σ c = x) : pop m' = pop m := by
  rw [pop_len, pop_len]
  have hn : (((bitsList m).map Fin.val).map σ).Nodup := by
    rw [List.Nodup, List.pairwise_map]
    refine (bits_sorted m).imp_of_mem ?_
    intro a b ha hb hab
    exact hm a b hab ((mem_bits hw).1 ha) ((mem_bits hw).1 hb)
  have hn' : ((bitsList m').map Fin.val).Nodup := (bits_sorted m').imp fun h => by omega
  have hp : List.Perm ((bitsList m').map Fin.val) (((bitsList m).map Fin.val).map σ) := by
    rw [List.perm_ext_iff_of_nodup hn' hn]
    intro x
    rw [mem_bits hw', hi, List.mem_map]
    exact ⟨fun ⟨c, h1, h2⟩ => ⟨c, (mem_bits hw).2 h1, h2⟩, fun ⟨c, h1, h2⟩ => ⟨c, (mem_bits hw).1 h1, h2⟩⟩
  rw [hp.length_eq, List.length_map]
theorem cnt_landn (m c : Nat) (hc : c < 64) (hb : m.testBit c = true) : ∀ k, cnt (landn m (shl1 c)) k + (if c < k then 1 else 0) = cnt m k
  | 0 => by simp [cnt]
  | k + 1 => by
    have ih := cnt_landn m c hc hb k
    simp only [cnt, testBit_landn, testBit_shl1]
    by_cases h : c = k
    · subst h; simp [hb, hc] at ih ⊢; omega
    · simp [h] at ih ⊢
      split <;> split at ih <;> omega
theorem pop_landn (m c : Nat) (hc : c < 64) (hb : m.testBit c = true) : pop (landn m (shl1 c)) + 1 = pop m := by
  have := cnt_landn m c hc hb 64
  rw [if_pos hc] at this; exact this
/-- each hand has q cards, with what it has played to the trick -/
def Evn (q : Nat) (t : Tb) : Prop := ∀ i, i < 4 → pop (t.h ((t.ld + i) % 4)) + (if i < t.cs.length then 1 else 0) = q
theorem Evn.turn {q : Nat} {t : Tb} (h : Evn q t) (hl : t.cs.length < 4) : pop (t.h t.turn) = q := by
  have := h t.cs.length hl
  rw [if_neg (Nat.lt_irrefl _)] at this
  exact this
theorem Evn.push {q : Nat} {t : Tb} (h : Evn q t) (hl : t.cs.length < 4) {c : Nat} (hc : c < 64) (hb : (t.h t.turn).testBit c = true) : Evn q (t.push c) := by
  intro i hi
  show pop (if (t.ld + i) % 4 = t.turn then landn (t.h ((t.ld + i) % 4)) (shl1 c) else t.h ((t.ld + i) % 4)) + (if i < (t.cs ++ [c]).length then 1 else 0) = q
  have hi2 := h i hi
  rw [List.length_append, List.length_singleton]
  by_cases e : i = t.cs.length
  · subst e
    have h1 := pop_landn _ c hc hb
    rw [if_pos (show (t.ld + t.cs.length) % 4 = t.turn from rfl), if_pos (by omega)]
    rw [if_neg (Nat.lt_irrefl _)] at hi2
    show pop (landn (t.h t.turn) (shl1 c)) + 1 = q
    exact h1.trans hi2
  · rw [if_neg (by unfold Tb.turn; omega)]
    by_cases e2 : i < t.cs.length
    · rw [if_pos (by omega)]; rw [if_pos e2] at hi2; exact hi2
    · rw [if_neg (by omega)]; rw [if_neg e2] at hi2; exact hi2
theorem Evn.put {q : Nat} {t : Tb} (h : Evn q t) (hl : t.cs.length < 4) (tr : Nat) {c : Nat} (hc : c < 64) (hb : (t.h t.turn).testBit c = true) :
    (t.cs.length < 3 ∧ Evn q (t.put tr c).1 ∧ (t.put tr c).1.cs.length = t.cs.length + 1) ∨ (t.cs.length = 3 ∧ Evn (q - 1) (t.put tr c).1 ∧ (t.put tr c).1.cs = []) := by
  have hp := h.push hl hc hb
  have hlen : (t.push c).cs.length = t.cs.length + 1 := by show (t.cs ++ [c]).length = _; simp
  unfold Tb.put Tb.settle
  by_cases e : t.cs.length < 3
  · left
    rw [if_pos (by omega)]
    exact ⟨e, hp, hlen⟩
  · right
    rw [if_neg (by omega)]
    refine ⟨by omega, fun i hi => ?_, rfl⟩
    show pop ((t.push c).h (((t.push c).win tr + i) % 4)) + 0 = q - 1
    have hld : (t.push c).ld = t.ld := rfl
    obtain ⟨j, hj, ej⟩ : ∃ j, j < 4 ∧ ((t.push c).ld + j) % 4 = ((t.push c).win tr + i) % 4 := ⟨(((t.push c).win tr + i) + 4 - (t.push c).ld % 4) % 4, Nat.mod_lt _ (by decide), by omega⟩
    have := hp j hj
    rw [if_pos (by omega)] at this
    rw [ej] at this
    omega
theorem low_ne {h : Nat → Nat} {a b : Nat} (hab : a < b) (ha : (allM h).testBit a = true) : low (allM h) a ≠ low (allM h) b := by
  intro e
  by_cases hq : a / 13 = b / 13
  · have := low_lt hq hab ha; omega
  · exact hq (by rw [← low_suit (allM h) a, ← low_suit (allM h) b, e])
theorem shr4_pop {h : Nat → Nat} (hh : In52 h) {i : Nat} (hi : i < 4) : pop (shr4 h i) = pop (h i) :=
  pop_same (hh.w64 hi) ((shr4_in hh).w64 hi) (low (allM h)) (fun a _ hab ha _ => low_ne hab ((allM_bit h a).2 ⟨i, hi, ha⟩)) (shr4_bit hh hi)
theorem shr4_evn {h : Nat → Nat} (hh : In52 h) {q ld : Nat} (he : Evn q ⟨h, ld, []⟩) : Evn q ⟨shr4 h, ld, []⟩ := fun i hi => by
  have := he i hi
  show pop (shr4 h ((ld + i) % 4)) + 0 = q
  rw [shr4_pop hh (Nat.mod_lt _ (by decide))]
  exact this
theorem shr4_uniq {h : Nat → Nat} (hh : In52 h) {ld : Nat} (hu : Uniq ⟨h, ld, []⟩) : Uniq ⟨shr4 h, ld, []⟩ := by
  rintro s s' c ⟨hs, hb | ⟨i, hi, -⟩⟩ ⟨hs', hb' | ⟨i', hi', -⟩⟩
  · obtain ⟨x, hx, ex⟩ := (shr4_bit hh hs c).1 hb
    obtain ⟨y, hy, ey⟩ := (shr4_bit hh hs' c).1 hb'
    have hax := (allM_bit h x).2 ⟨s, hs, hx⟩
    have hay := (allM_bit h y).2 ⟨s', hs', hy⟩
    have hxy : x = y := by
      rcases Nat.lt_trichotomy x y with h1 | h1 | h1
      · exact absurd (ex.trans ey.symm) (low_ne h1 hax)
      · exact h1
      · exact absurd (ey.trans ex.symm) (low_ne h1 hay)
    subst hxy
    exact hu s s' x (own_hand hs hx) (own_hand hs' hy)
  · cases hi'
  · cases hi
  · cases hi
theorem shr4_w64 (h : Nat → Nat) (i : Nat) : W64 (shr4 h i) := shH_w64 ..
theorem shr4_ok {h : Nat → Nat} (hh : In52 h) {ld : Nat} (hl : ld < 4) : TbOk ⟨shr4 h, ld, []⟩ := ⟨⟨shr4_in hh, by simp⟩, hl, fun x hx => (by cases hx), shr4_w64 h⟩
theorem own_put {t : Tb} {tr c : Nat} (hc : c < 64) (hl : t.cs.length < 4) (hb : (t.h t.turn).testBit c = true) {s x : Nat} (h : Own (t.put tr c).1 s x) : Own t s x := by
  refine own_push hc hl hb ?_
  unfold Tb.put Tb.settle at h
  split at h
  · exact h
  · obtain ⟨hs, h | ⟨i, hi, -⟩⟩ := h
    · exact ⟨hs, .inl h⟩
    · cases hi
theorem uniq_put {t : Tb} (hu : Uniq t) {tr c : Nat} (hc : c < 64) (hl : t.cs.length < 4) (hb : (t.h t.turn).testBit c = true) : Uniq (t.put tr c).1 :=
  fun s s' x h1 h2 => hu s s' x (own_put hc hl hb h1) (own_put hc hl hb h2)
theorem ok_put {t : Tb} (h : TbOk t) {tr c : Nat} (hc : c < 52) : TbOk (t.put tr c).1 := by
  have hw : ∀ s, W64 ((t.push c).h s) := fun s => by
    show W64 (if s = t.turn then landn (t.h s) (shl1 c) else t.h s)
    split
    · exact (h.w64 s).landn
    · exact h.w64 s
  refine ⟨pk_put h.pk hc, ?_, ?_, ?_⟩
  · unfold Tb.put Tb.settle
    split
    · exact h.ld
    · exact Nat.mod_lt _ (by decide)
  · unfold Tb.put Tb.settle
    split
    · intro x hx
      rcases List.mem_append.1 (show x ∈ t.cs ++ [c] from hx) with hx | hx
      · exact h.c52 x hx
      · rcases List.mem_singleton.1 hx with rfl; exact hc
    · intro x hx; cases hx
  · unfold Tb.put Tb.settle
    split
    · exact hw
    · exact hw
end Go.Proofs.YtnbillhodbcfbaaDoor

/- Plain: what a table is worth lies between none and all of the tricks left. -/
namespace Go.Proofs.YtnbillhodbcfbaaDoor
open Go.RowKit Go.Sort Go.Shelf

theorem put_won {t : Tb} (tr c : Nat) : (t.cs.length < 3 → (t.put tr c).2 = 0) ∧ (t.put tr c).2 ≤ 1 := by
  have hlen : (t.push c).cs.length = t.cs.length + 1 := by show (t.cs ++ [c]).length = _; simp
  unfold Tb.put Tb.settle
  split
  · exact ⟨fun _ => rfl, Nat.zero_le _⟩
  · exact ⟨fun h => by omega, Nat.sub_le _ _⟩
theorem legal_bit {t : Tb} {c : Nat} (h : c ∈ t.cards) : c < 52 ∧ (t.h t.turn).testBit c = true := ⟨(mem_cards.1 h).1, (legal_iff.1 (mem_cards.1 h).2).1⟩
theorem val_le (tr : Nat) : ∀ (n q : Nat) (t : Tb), t.cs.length < 4 → Evn q t → n + t.cs.length = 4 * q → val tr n t ≤ q
  | 0, _, _, _, _, _ => Nat.zero_le _
  | n + 1, q, t, hl, he, hn => by
    have e : val tr (n + 1) t = bestL t.ns (t.cards.map fun c => (t.put tr c).2 + val tr n (t.put tr c).1) := rfl
    rw [e]
    by_cases h0 : t.cards = []
    · rw [h0]; exact Nat.zero_le _
    · obtain ⟨h1, -⟩ := bestL_spec t.ns (l := t.cards.map fun c => (t.put tr c).2 + val tr n (t.put tr c).1) (by simpa using h0)
      obtain ⟨c, hc, ec⟩ := List.mem_map.1 h1
      rw [← ec]
      obtain ⟨hc52, hb⟩ := legal_bit hc
      obtain ⟨w0, w1⟩ := put_won (t := t) tr c
      rcases he.put hl tr (by omega) hb with ⟨hk, he', hl'⟩ | ⟨hk, he', hl'⟩
      · have := val_le tr n q _ (by omega) he' (by omega)
        have := w0 hk
        omega
      · have := val_le tr n (q - 1) _ (by rw [hl']; simp) he' (by rw [hl']; simp; omega)
        omega
end Go.Proofs.YtnbillhodbcfbaaDoor
