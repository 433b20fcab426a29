/- revoke.Winners over this seat's program. -/
import Derived.Test.YtdlnilebnobllaaRvRig
import Derived.Test.YtdlnilebnobllaaBag
import Derived.Maps.OwnIn
namespace Go.Proofs.Ytdlnilebnobllaa
open Go.RowKit Go.Shelf Go.Sort
attribute [local go_sem] Oper.semAt_some

/-- a byte's cell -/
abbrev encU (z : Nat) : List Value := [.int .u8 (z : Int)]
theorem encU_len (z : Nat) : (encU z).length = 1 := rfl
/-- a slice that owns bytes -/
abbrev OwnU (w : World) (base : Nat) (v : Value) (zs : List Nat) : Prop := Owns encU 1 5 w base v zs
theorem flatU (zs : List Nat) (i : Nat) (h : i < zs.length) : (zs.flatMap encU)[i]? = some (.int .u8 ((zs.getD i 0 : Nat) : Int)) := by
  have := flat_at (enc := encU) encU_len zs i 0 (by omega) (x := zs.getD i 0) (by rw [List.getD_eq_getElem?_getD, List.getElem?_eq_getElem h]; rfl)
  simpa using this
theorem OwnU.byt {w : World} {base : Nat} {v : Value} {zs : List Nat} (h : OwnU w base v zs) (hs : zs.length ≤ 140737488351232) (hb : ∀ i, zs.getD i 0 < 256) :
    ∃ a cap, v = .slice a zs.length cap ∧ (a = none → cap = 0) ∧ zs.length ≤ cap ∧ cap ≤ maxLen ∧ (∀ ad, a = some ad → base ≤ ad.block ∧ ad.block < w.heap.size) ∧ Byt w a zs.length zs := by
  have hf := h.form
  rcases hf with ⟨rfl, rfl⟩ | ⟨g, cap, rfl, h1, h2, h3, h4⟩
  · exact ⟨none, 0, rfl, fun _ => rfl, by simp, by simp, (fun _ h => by cases h), rfl, hs, hb, .inl rfl⟩
  · refine ⟨some ⟨g, 0, none⟩, cap, rfl, (fun h => by cases h), h3, h4, (fun ad h => by cases h; exact ⟨h1, h2⟩), rfl, hs, hb, .inr ⟨g, 0, rfl, h2, fun i hi => ?_⟩⟩
    have := h.cell i 0 (by omega) (x := zs.getD i 0) (by rw [List.getD_eq_getElem?_getD, List.getElem?_eq_getElem hi]; rfl)
    simpa using this

theorem info_u8' : (Try.prog.info? 5).map (fun i => (i.zero, i.size, i.bytes)) = some (some (.int .u8 0), 1, 1) := by kernel_rfl

theorem winsTo_le (l : List Rnd) : (winsTo l).length ≤ sumTo l := by
  induction l with
  | nil => simp [winsTo, sumTo]
  | cons x l ih =>
    simp only [winsTo, sumTo, List.length_map, List.map_cons, List.sum_cons, List.filter_cons] at *
    split
    · rename_i h; simp at h; simp only [List.length_cons]; omega
    · omega
theorem wins_len {w : World} {r : Rc} {a : Option Addr} {len : Nat} {pre : List Rnd} (hz : Byt w a len r.zs) (h : pre <+: r.rnds) : (winsTo pre).length ≤ 140737488351232 := by
  have h1 := winsTo_le pre
  have h2 := sumTo_le h
  have h3 := hz.length
  have h4 := hz.small
  omega
theorem rev_winners_ok (r : Rc) (a : Option Addr) (len cap : Nat) (w : World) (hok : r.ok len cap) (hz : Byt w a len r.zs) (hab : ∀ ad, a = some ad → ad.block < w.heap.size) (hd : r.dealt = true) (hE : r.rightV = (-1, 0)) :
    Calls Try.prog 18 #[r.v a len cap] w fun e w' => ∃ v, e = .returned (.tuple #[v, .int .i64 0]) ∧ OwnU w' w.heap.size v (winsTo r.rnds) ∧ Below w.heap.size w w' := by
  obtain ⟨i0, hi, hz0, hz1, hz2⟩ := info_parts info_u8'
  refine (callsIn_wide (n := 9)).1 (callsIn_of_wp_marks Try.func18 rfl trivial ?_)
  simp only [Try.ntmps18, List.size_toArray, List.length_cons, List.length_nil, Nat.reduceAdd, Nat.reduceSub, Array.replicate_succ, Array.replicate_zero, List.push_toArray, List.append_toArray, List.nil_append, List.cons_append]
  have hB0 := (Below.refl w.heap.size w).alloc (Nat.le_refl _) (.cells (r.cells a len cap) 27)
  have HR := rev_right_ok r a len cap _ hok (hz.below (Nat.le_refl _) hB0) (fun ad h => by have := hab ad h; simp; omega) hd
  rw [hE] at HR
  have HRT := Lib.hid HR
  have HB0 := Lib.hid hB0
  clear HR hB0 hE
  gi_wp2_with fail
  refine (callsIn_wide.2 HRT.out).mono ?_
  rintro e w1 ⟨rfl, hb1⟩
  have hsz1 := hb1.size
  simp only [World.size_alloc] at hsz1
  have hszl : w.heap.size < w1.heap.size := by omega
  have hBw := HB0.out.trans (hb1.mono (by simp))
  have hRec := (Row.new w 27 (r.cells a len cap)).below (by simp) hb1
  have HREC := Lib.hid hRec
  have HBW := Lib.hid hBw
  clear hBw hb1
  have k0 := hRec.cell 0
  have k1 := hRec.cell 1
  have k2 := hRec.cell 2
  have k3 := hRec.cell 3
  have k4 := hRec.cell 4
  have k5 := hRec.cell 5
  have k6 := hRec.cell 6
  clear hRec
  simp at k0 k1 k2 k3 k4 k5 k6
  gi_wp2_with fail
  refine (callsIn_wide.2 (rev_rounds r a len cap _)).mono ?_
  rintro e w2 ⟨rfl, rfl⟩
  gi_wp2_with fail
  have hBn := (HBW.out.alloc (by omega) (.cells #[.slice none 0 0] 25)).alloc (by simp; omega) (.cells (r.cells a len cap) 27)
  have HS1 : Hid (∀ b, (b = w1.heap.size + 1 ∨ ∃ ad, a = some ad ∧ b = ad.block) → b < w1.heap.size + 2) := by
    rintro b (rfl | ⟨ad, h, rfl⟩)
    · omega
    · have := hab ad h; omega
  have HS2 : Hid (¬ (w1.heap.size = w1.heap.size + 1 ∨ ∃ ad, a = some ad ∧ w1.heap.size = ad.block)) := by
    rintro (h | ⟨ad, h, h'⟩)
    · omega
    · have := hab ad h; omega
  refine range_rounds (w1.heap.size + 1) r a len cap (by decide) rfl (by simp) (by simp) (by decide)
    (by have := Row.new (w1.alloc (.cells #[.slice none 0 0] 25)) 27 (r.cells a len cap); simpa using this) (hz.below (Nat.le_refl _) hBn) hok
    (fun b => b = w1.heap.size + 1 ∨ ∃ ad, a = some ad ∧ b = ad.block) (.inl rfl) (fun ad h => .inr ⟨ad, h, rfl⟩)
    (fun b h => by have := HS1.out b h; simpa using this)
    (fun G pre W => Bag encU 1 5 25 w1.heap.size (w1.heap.size + 2) G (winsTo pre) W ∧ Below w.heap.size w W)
    (stable_and (stable_bag (fun pre => winsTo pre) (by simp; omega)) (stable_below (by simp; omega) (Nat.le_refl _)))
    ⟨(Bag.new encU_len _).alloc _, hBn⟩ ?body ?done
  case body =>
    rintro l G pre x T W ⟨⟨v, hbx, how, hvg⟩, hB⟩ hT hTw hG hsz hpre
    simp only [inFr, List.setIfInBounds_toArray, List.set]
    obtain ⟨ad, c, hcv⟩ := rnd_cards (cap := cap) hz hpre
    have c0 := hbx.cell 0
    have t5 := hT.cell 5
    have t6 := hT.cell 6
    have hTl := hT.lt
    simp [rndC, hcv] at c0 t5 t6
    clear hcv
    simp only [World.size_alloc] at hsz hTw hG
    have HSN := Lib.hid (winsTo_snoc pre x)
    have hwl : (winsTo pre).length ≤ 140737488351232 := wins_len hz ((List.prefix_append _ _).trans hpre)
    by_cases h4 : x.cards.length = 4
    · have h4' : ((x.cards.length : Int) == 4) = true := by rw [beq_iff_eq]; omega
      have H4 := Lib.hid h4
      clear h4
      gi_wp2_with (gi_at_builtin; refine wpListIn_append_own_at _ rfl _ _ 25 rfl (w1.heap.size + 2) 5 i0 (.int .u8 0) 1 1 Try.underlying25 hi hz0 hz1 hz2 rfl (by decide) _ _ _ rfl (how.2.alloc _) ⟨W.heap.size, 0, none⟩ 1 1 [.int .u8 (x.winner : Int)] rfl rfl (cell_one_new _ _ _) (by simp [Value.oneCell']) (by unfold maxLen; omega) (by omega) (by simp; omega) ?_; intro v' w3 hown' hgrow _ hloc; obtain ⟨g', cap', rfl⟩ := ownsRow_succ hown'; obtain ⟨q1, q2, q3, q4, q5, q6, q7, q8⟩ := bag_appended (x := x.winner) (B := w1.heap.size + 2) (n := w.heap.size) (S := fun b => b = w1.heap.size + 1 ∨ ∃ ad, a = some ad ∧ b = ad.block) hbx how hvg (by decide) (by omega) (by omega) (by omega) hG HS1.out HS2.out rfl rfl hown' hgrow hloc)
      exact ⟨by rw [World.size_alloc, World.size_alloc]; exact q5, q6, q7, by rw [HSN.out, if_pos H4.out]; exact q4, hB.trans q8⟩
    · have h4' : ((x.cards.length : Int) == 4) = false := by rw [beq_eq_false_iff_ne]; omega
      have H4 := Lib.hid h4
      clear h4
      gi_wp2
      refine ⟨keeps_refl _, fun _ _ => rfl, Kept.refl _ _, ⟨v, hbx, ?_, hvg⟩, hB⟩
      rw [HSN.out, if_neg H4.out]
      exact how
  case done =>
    rintro D G W hD ⟨⟨v, hbx, how, hvg⟩, hB⟩ hK
    have c0 := hbx.cell 0
    simp at c0
    gi_wp2
    refine ⟨by simp, .inl ⟨_, _, rfl, run_takeDeferred hK, ?_⟩⟩
    exact ⟨_, results_tmp2 rfl _ _ _, v, rfl, (how.putObj _ hK rfl).mono (by omega), hB.trans (belowK_b (w := w) (Nat.le_refl _) W D _ _ (by simp at hD; omega) hK rfl rfl)⟩
theorem rev_winners_no (r : Rc) (a : Option Addr) (len cap : Nat) (w : World) (v1 : Int) (E : Nat) (hE : E ≠ 0) (HRT : ∀ w1, Below w.heap.size w w1 → Calls Try.prog 23 #[r.v a len cap] w1 fun e w' => e = .returned (.tuple #[.int .i64 v1, .int .i64 (E : Int)]) ∧ Below w1.heap.size w1 w') :
    Calls Try.prog 18 #[r.v a len cap] w fun e w' => e = .returned (.tuple #[.slice none 0 0, .int .i64 (E : Int)]) ∧ Below w.heap.size w w' := by
  have hB0 := (Below.refl w.heap.size w).alloc (Nat.le_refl _) (.cells (r.cells a len cap) 27)
  have HR := Lib.hid (HRT _ hB0)
  have HB0 := Lib.hid hB0
  clear HRT hB0
  have hE' : ((E : Int) != 0) = true := by rw [bne_iff_ne]; omega
  go_enter Try.func18, Try.ntmps18
  go_wp2_with fail
  refine HR.out.mono ?_
  rintro e w1 ⟨rfl, hb1⟩
  have hbb := Lib.hid (HB0.out.trans (hb1.mono (by simp)))
  clear hb1
  go_wp2
  go_ret2
  exact ⟨rfl, hbb.out⟩
end Go.Proofs.Ytdlnilebnobllaa
