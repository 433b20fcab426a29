/- AgL, AgM in one text. -/
import Derived.Test.YtikdkhiehfccpaaMAgj

/- Contract of agree.fitting over this seat's program. -/
namespace Go.Proofs.Ytikdkhiehfccpaa
open Go.RowKit Go.Sort Cnt

/-- the points for which hands of these lengths fit one of the ranges -/
def fitP (rs : List Rg) (l : Nat → Nat) (p : Nat) : Bool := rs.any fun r => r.long l && wthn p r.p0 r.p1
/-- one range more, from its least points to x - 1 -/
def fitX (f : Nat → Bool) (lo x : Nat) : Nat → Bool := fun p => f p || (decide (lo ≤ p) && decide (p < x))
theorem fitX_step (f : Nat → Bool) (lo x : Nat) (h : lo ≤ x) : turnB (fitX f lo x) x true = fitX f lo (x + 1) := by
  funext p
  unfold turnB fitX
  by_cases e : p = x
  · subst e
    simp [h]
  · rw [if_neg e]
    have : (decide (p < x + 1)) = decide (p < x) := by by_cases h2 : p < x <;> simp <;> omega
    rw [this]
theorem fitP_no {rs : List Rg} {l : Nat → Nat} {k : Nat} {r : Rg} (hr : rs[k]? = some r) (h : r.long l = false) : fitP (rs.take (k + 1)) l = fitP (rs.take k) l := by
  funext p
  unfold fitP
  rw [List.take_add_one, hr, List.any_append]
  simp [h]
theorem fitP_yes {rs : List Rg} {l : Nat → Nat} {k lo hi : Nat} {r : Rg} (hr : rs[k]? = some r) (h : r.long l = true) (h0 : r.p0 = (lo : Int)) (h1 : r.p1 = (hi : Int)) : fitP (rs.take (k + 1)) l = fitX (fitP (rs.take k) l) lo (hi + 1) := by
  funext p
  unfold fitP fitX
  rw [List.take_add_one, hr, List.any_append]
  simp [h, wthn, h0, h1]
  rw [show decide (p ≤ hi) = decide (p < hi + 1) by rw [decide_eq_decide]; omega]
theorem under84 : Try.prog.underlying 137 = some (.array 41 4) := by kernel_rfl
theorem size84 : (Try.prog.info? 137).map (·.size) = some 41 := by kernel_rfl
theorem zero84 : ∀ w : World, (zeroValue 137).run Try.prog w = .ok (.agg (tabB 41 fun _ => false)) w := by
  have h : (Try.prog.info? 137).map (fun i => (i.zero, i.size)) = some (some (.agg (tabB 41 fun _ => false)), 41) := by kernel_rfl
  cases hq : Try.prog.info? 137 with
  | none => simp [hq] at h
  | some i =>
    simp [hq] at h
    intro w
    simp [zeroValue, typeInfo, hq, h.1]
/-- the world in the loops of fitting -/
structure FW (w wr : World) (b1 b2 : Nat) (l : Nat → Nat) (f : Nat → Bool) : Prop where
  below : Below w.heap.size w wr
  l1 : w.heap.size < b1
  l2 : b1 < b2
  len : Row wr w.heap.size 112 (larr l)
  res : Row wr b1 137 (tabB 41 fun _ => false)
  row : Row wr b2 137 (tabB 41 f)
theorem FW.step {w wr wa : World} {b1 b2 : Nat} {l : Nat → Nat} {f : Nat → Bool} (h : FW w wr b1 b2 l f) (hb : Below wr.heap.size wr wa) : FW w wa b1 b2 l f :=
  ⟨h.below.trans (hb.mono h.below.size), h.l1, h.l2, h.len.later hb, h.res.later hb, h.row.later hb⟩
theorem FW.set {w wr : World} {b1 b2 : Nat} {l : Nat → Nat} {f : Nat → Bool} (h : FW w wr b1 b2 l f) (i : Nat) : FW w (wr.setCell ⟨b2, i, none⟩ (.bool true)) b1 b2 l (turnB f i true) := by
  obtain ⟨hb, l1, l2, o, r, s⟩ := h
  refine ⟨hb.setCell (by show w.heap.size ≤ b2; omega) _, l1, l2, o.other (by omega), r.other (by omega), ?_⟩
  have := s.set i (.bool true)
  rwa [tabB_set] at this

set_option maxRecDepth 5000 in
theorem ag_fitting (a : Option Addr) (len cap : Nat) (rs : List Rg) (l : Nat → Nat) (w : World) (hr : Rgs w a len rs) (hok : rs.all Rg.ok = true) :
    Calls Try.prog 67 #[.slice a len cap, .agg (larr l)] w fun e w' => e = .returned (.agg (tabB 41 (fitP rs l))) ∧ Below w.heap.size w w' := by
  have hsm := hr.small
  have HR := Lib.hid hr
  have HOK := Lib.hid hok
  clear hr hok
  have hz := zero84
  go_enter Try.func67, Try.ntmps67
  go_upto_region 2 with fail
  have hI : FW w (((w.alloc (.cells (larr l) 112)).alloc (.cells (tabB 41 fun _ => false) 137)).alloc (.cells (tabB 41 fun _ => false) 137)) (w.heap.size + 1) (w.heap.size + 1 + 1) l (fitP (rs.take 0) l) := by
    refine ⟨(((Below.refl _ _).alloc (Nat.le_refl _) _).alloc (by simp) _).alloc (by simp; omega) _, by omega, by omega, ((Row.new _ _ _).alloc _).alloc _, ?_, ?_⟩
    · have := (Row.new (w.alloc (.cells (larr l) 112)) 137 (tabB 41 fun _ => false)).alloc (.cells (tabB 41 fun _ => false) 137)
      rwa [World.size_alloc] at this
    · have := Row.new ((w.alloc (.cells (larr l) 112)).alloc (.cells (tabB 41 fun _ => false) 137)) 137 (tabB 41 fun _ => false)
      rwa [World.size_alloc, World.size_alloc] at this
  clear hz
  generalize ((w.alloc (.cells (larr l) 112)).alloc (.cells (tabB 41 fun _ => false) 137)).alloc (.cells (tabB 41 fun _ => false) 137) = W0 at *
  generalize w.heap.size + 1 + 1 = b2 at *
  generalize w.heap.size + 1 = b1 at *
  go_wp2_with fail
  go_loopw [11] (fun i wr => ∃ (k : Nat), k ≤ len ∧ i = .int .i64 (k : Int) ∧ FW w wr b1 b2 l (fitP (rs.take k) l)) (fun i _ => len - (intOf i).toNat)
  case atStart => exact ⟨0, by omega, rfl, hI⟩
  case round =>
    obtain ⟨k, hk, rfl, hF⟩ := hrel
    by_cases hlt : k < len
    · obtain ⟨b, off, r, rfl, hbl, hr, c0, c1, c2, c3, c4, c5, c6, c7, c8, c9⟩ := (HR.out.below (Nat.le_refl _) hF.below).ten hlt
      have HK := Lib.hid hr
      have hrok : r.ok = true := (List.all_eq_true.1 HOK.out) r (List.mem_of_getElem? hr)
      have hp : ∃ lo hi : Nat, r.p0 = (lo : Int) ∧ r.p1 = (hi : Int) ∧ lo ≤ hi ∧ hi ≤ 40 := by
        simp only [Rg.ok, ordB, Bool.and_eq_true, decide_eq_true_eq] at hrok
        exact ⟨r.p0.toNat, r.p1.toNat, by omega, by omega, by omega, by omega⟩
      obtain ⟨lo, hi, hp0, hp1, hpl, hph⟩ := hp
      clear hr hrok
      have hwl := hF.len.lt
      have hd0 := hF.len.cell 0
      have hd1 := hF.len.cell 1
      have hd2 := hF.len.cell 2
      have hd3 := hF.len.cell 3
      simp only [List.getElem?_toArray, List.getElem?_cons_zero, List.getElem?_cons_succ] at hd0 hd1 hd2 hd3
      cases hlong : r.long l
      · have HN := Lib.hid (fitP_no HK.out hlong)
        have HF := Lib.hid hF
        have HP := Lib.hid (And.intro hp0 hp1)
        clear hF hp0 hp1
        go_wp2_with (go_at_call 51; refine (ag_long r l _).mono ?_; rintro e w' ⟨rfl, hb1⟩)
        refine ⟨⟨k + 1, by omega, by simp, ?_⟩, by simp [intOf]; omega⟩
        rw [HN.out]
        exact HF.out.step (bel_alloc (Below.refl _ _) (Nat.le_refl _) hb1)
      · have HN := Lib.hid (fitP_yes HK.out hlong hp0 hp1)
        have HF := Lib.hid hF
        have HP := Lib.hid (And.intro hp0 hp1)
        clear hF hp0 hp1
        go_wp2_with (go_at_call 51; refine (ag_long r l _).mono ?_; rintro e w' ⟨rfl, hb1⟩; obtain ⟨q0, q1, q2, q3, q4, q5, q6, q7, q8, q9⟩ := ten_new hb1)
        have hb2l : b2 < wr.heap.size := HF.out.row.lt
        have hF2 := HF.out.step (bel_alloc (Below.refl _ _) (Nat.le_refl _) hb1)
        have HX0 : fitX (fitP (rs.take k) l) lo lo = fitP (rs.take k) l := by
          funext p
          unfold fitX
          have : (decide (lo ≤ p) && decide (p < lo)) = false := by
            by_cases h : lo ≤ p
            · simp [h]
            · simp [h]
          rw [this, Bool.or_false]
        rw [← HX0] at hF2
        generalize fitP (rs.take k) l = f0 at *
        generalize wr.heap.size = b3 at *
        clear HX0 q0 q2 q3 q4 q5 q6 q7 q8 q9 c0 c1 c2 c3 c4 c5 c6 c7 c8 c9 hd0 hd1 hd2 hd3
        go_loopw [8] (fun v wi => ∃ x : Nat, lo ≤ x ∧ x ≤ hi + 1 ∧ v = .int .i64 (x : Int) ∧ wi.cell? ⟨b3, 1, none⟩ = some (.int .i64 r.p1) ∧ FW w wi b1 b2 l (fitX f0 lo x)) (fun v _ => hi + 1 - (intOf v).toNat)
        case atStart => exact ⟨lo, Nat.le_refl _, by omega, by rw [HP.out.1], q1, hF2⟩
        case round =>
          obtain ⟨x, hx1, hx2, rfl, hq1, hFx⟩ := hrel
          by_cases hxl : x ≤ hi
          · have dx : decide ((x : Int) ≤ r.p1) = true := by rw [HP.out.2]; simp; omega
            have hx41 : (x : Int) < 41 := by omega
            have hcx : wr.cell? ⟨b2, x, none⟩ = some (.bool (fitX f0 lo x x)) := by rw [hFx.row.cell, tabB_get _ _ _ (by omega)]
            have hfx := hFx.row.frozen x
            have HS := Lib.hid (hFx.set x)
            have HT := Lib.hid (fitX_step f0 lo x hx1)
            have hq2 : (wr.setCell ⟨b2, x, none⟩ (.bool true)).cell? ⟨b3, 1, none⟩ = some (.int .i64 r.p1) := (World.cell?_of_block (Below.heap_setCell _ _ _ _ (by show b3 ≠ b2; omega))).trans hq1
            have HQ := Lib.hid hq2
            clear hFx hq2
            go_wp2_with fail
            refine ⟨⟨x + 1, by omega, by omega, by simp, HQ.out, ?_⟩, by simp [intOf]; omega⟩
            rw [← HT.out]
            exact HS.out
          · obtain rfl : x = hi + 1 := by omega
            have dx : decide ((hi : Int) + 1 ≤ r.p1) = false := by rw [HP.out.2]; simp; omega
            have HS := Lib.hid hFx
            clear hFx
            go_wp2_with fail
            refine ⟨⟨k + 1, by omega, by simp, ?_⟩, by simp [intOf]; omega⟩
            rw [HN.out]
            exact HS.out
    · obtain rfl : k = len := by omega
      have hT : rs.take k = rs := List.take_of_length_le (by have := HR.out.length; omega)
      rw [hT] at hF
      have hr0 := hF.res
      have hr := hF.row
      have HB2 := Lib.hid hF.below
      have hl2 : w.heap.size ≤ b1 := by have := hF.l1; omega
      clear hI hF hT
      go_wp2_with (first
        | refine wpList_load_row rfl 137 (.tmp 5) rfl b2 rfl 137 (tabB 41 (fitP rs l)) (0, 0) _ hr under84 rfl (by rw [size84, tabB_size]) ?_
        | refine wpList_store_row rfl 137 (.tmp 4) (.tmp 32) rfl b1 (tabB 41 (fitP rs l)) rfl rfl 137 _ hr0 (by rw [size84, tabB_size]) (by rw [tabB_size, tabB_size]) (tabB_one _ _) ?_)
      refine bodyPost_ret (v := .agg (tabB 41 (fitP rs l))) (results_cell_row (p := 4) rfl _ _ b1 _ (tabB 41 (fitP rs l)) (0, 0) _ rfl (setRow_heap _ _ _ _ _ _ hr0) under84 rfl (by rw [size84, tabB_size])) rfl ⟨rfl, below_setRow HB2.out hl2 _⟩
end Go.Proofs.Ytikdkhiehfccpaa

/- Contract of agree.Given over this seat's program. -/
namespace Go.Proofs.Ytikdkhiehfccpaa
open Go.RowKit Go.Sort Go.Shelf Cnt
attribute [local go_sem] Oper.semAt_some

/-- what one cell adds to a count -/
def oneC (q : (Nat → Nat) → Nat → Bool) (c : Cl) : Nat := sumN 41 fun p => if q c.1 p then c.2 p else 0
/-- the count over cells -/
def allC (q : (Nat → Nat) → Nat → Bool) : List Cl → Nat
  | [] => 0
  | c :: cs => oneC q c + allC q cs
theorem allC_append (q : (Nat → Nat) → Nat → Bool) (xs ys : List Cl) : allC q (xs ++ ys) = allC q xs + allC q ys := by
  induction xs with
  | nil => simp [allC]
  | cons c cs ih => simp only [List.cons_append, allC, ih]; omega
theorem oneC_le (q : (Nat → Nat) → Nat → Bool) (c : Cl) : oneC q c ≤ oneC (fun _ _ => true) c := sumN_le fun p _ => by split <;> simp
theorem allC_le (q : (Nat → Nat) → Nat → Bool) (cs : List Cl) : allC q cs ≤ allC (fun _ _ => true) cs := by
  induction cs with
  | nil => exact Nat.le_refl _
  | cons c cs ih => exact Nat.add_le_add (oneC_le q c) ih

/-- the loop's variables lie in two blocks of their own -/
structure BxC (m : Nat) (x : Cl) (u : Nat × Nat) (W : World) : Prop where
  len : Row W u.1 112 (larr x.1)
  sp : Row W u.2 136 (tab 41 x.2)
  l1 : m < u.1
  l2 : m < u.2
theorem BxC.putObj {m : Nat} {x : Cl} {u : Nat × Nat} {W : World} {l : Nat} {o : Obj} (o' : Obj) (h : BxC m x u W) (hl : W.heap[l]? = some o) (ho : o.isCells = false) : BxC m x u (W.putObj l o') := by
  have key : ∀ {b : Nat} {t : TypeId} {c : Array Value}, Row W b t c → Row (W.putObj l o') b t c := fun {b t c} hr =>
    hr.same (World.putObj_heap_other (fun e => by subst e; rw [show W.heap[b]? = _ from hr] at hl; cases hl; cases ho))
  exact ⟨key h.len, key h.sp, h.l1, h.l2⟩
/-- where the loop's variables are put -/
abbrev putC (u : Nat × Nat) (t : Array Value) : Array Value := (t.setIfInBounds 13 (.pointer (some ⟨u.1, 0, none⟩))).setIfInBounds 14 (.pointer (some ⟨u.2, 0, none⟩))
/-- the world between two rounds of Given -/
structure GI (w : World) (b1 b2 la ca lb cb : Nat) (a b : Option Addr) (va vb : Nat) (W : World) : Prop where
  below : Below w.heap.size w W
  ra : Row W w.heap.size 27 #[.slice a la ca]
  rb : Row W (w.heap.size + 1) 27 #[.slice b lb cb]
  one : Row W b1 3 #[.int .i64 (va : Int)]
  two : Row W b2 3 #[.int .i64 (vb : Int)]
theorem GI.later {w : World} {b1 b2 la ca lb cb : Nat} {a b : Option Addr} {va vb : Nat} {W W' : World} (h : GI w b1 b2 la ca lb cb a b va vb W) (hb : Below W.heap.size W W') : GI w b1 b2 la ca lb cb a b va vb W' :=
  ⟨h.below.trans (hb.mono h.below.size), h.ra.later hb, h.rb.later hb, h.one.later hb, h.two.later hb⟩
theorem GI.shut {w : World} {b1 b2 la ca lb cb B : Nat} {a b : Option Addr} {va vb : List Cl → Nat} (hw : w.heap.size + 1 < B) (h1 : b1 < B) (h2 : b2 < B) : Shut B (fun pre W => GI w b1 b2 la ca lb cb a b (va pre) (vb pre) W) :=
  fun _ _ _ h hb => ⟨h.below.trans (hb.mono (by omega)), h.ra.below (by omega) hb, h.rb.below (by omega) hb, h.one.below (by omega) hb, h.two.below (by omega) hb⟩
/-- one value more -/
theorem GI.set1 {w : World} {b1 b2 la ca lb cb : Nat} {a b : Option Addr} {va vb : Nat} {W : World} (h : GI w b1 b2 la ca lb cb a b va vb W) (hl : w.heap.size + 1 < b1) (hn : b1 ≠ b2) (v : Nat) : GI w b1 b2 la ca lb cb a b v vb (W.setCell ⟨b1, 0, none⟩ (.int .i64 (v : Int))) := by
  refine ⟨h.below.setCell (by show w.heap.size ≤ b1; omega) _, h.ra.other (by omega), h.rb.other (by omega), ?_, h.two.other (by omega)⟩
  have := h.one.set 0 (.int .i64 (v : Int))
  simpa using this
theorem GI.set2 {w : World} {b1 b2 la ca lb cb : Nat} {a b : Option Addr} {va vb : Nat} {W : World} (h : GI w b1 b2 la ca lb cb a b va vb W) (hl : w.heap.size + 1 < b2) (hn : b1 ≠ b2) (v : Nat) : GI w b1 b2 la ca lb cb a b va v (W.setCell ⟨b2, 0, none⟩ (.int .i64 (v : Int))) := by
  refine ⟨h.below.setCell (by show w.heap.size ≤ b2; omega) _, h.ra.other (by omega), h.rb.other (by omega), h.one.other (by omega), ?_⟩
  have := h.two.set 0 (.int .i64 (v : Int))
  simpa using this

set_option maxRecDepth 5000 in
theorem ag_Given (left nn : Nat) (hl : left < 4503599627370496) (hn : nn ≤ 13) (a b : Option Addr) (la ca lb cb : Nat) (ra rb : List Rg) (w : World) (ha : Rgs w a la ra) (hb : Rgs w b lb rb) (oka : rightV ra = true) (okb : rightV rb = true)
    (hT : allC (fun _ _ => true) (cellsOf left nn) ≤ 4611686018427387904) :
    Calls Try.prog 55 #[.int .u64 (left : Int), .int .i64 (nn : Int), .slice a la ca, .slice b lb cb] w fun e w' =>
      e = .returned (.tuple #[.int .i64 ((allC (fun l p => fitP ra l p) (cellsOf left nn) : Nat) : Int), .int .i64 ((allC (fun l p => fitP ra l p && fitP rb l p) (cellsOf left nn) : Nat) : Int), .int .i64 0]) ∧ Below w.heap.size w w' := by
  have HA := Lib.hid ha
  have HB := Lib.hid hb
  have HKa := Lib.hid oka
  have HKb := Lib.hid okb
  have HT := Lib.hid hT
  have hleg : legalB left (nn : Int) = true := by simp [legalB]; omega
  have HG := Lib.hid hleg
  clear ha hb oka okb hT hleg
  refine (callsIn_wide (n := 9)).1 ?_
  refine callsIn_of_wp_marks Try.func55 rfl trivial ?_ rfl
  simp only [Try.ntmps55, List.size_toArray, List.length_cons, List.length_nil, Nat.reduceAdd, Nat.reduceSub, Array.replicate_succ, Array.replicate_zero, List.push_toArray, List.append_toArray, List.nil_append, List.cons_append]
  have hW2 : Below w.heap.size w ((w.alloc (.cells #[.slice a la ca] 27)).alloc (.cells #[.slice b lb cb] 27)) := ((Below.refl _ _).alloc (Nat.le_refl _) _).alloc (by simp) _
  have hRa : Row ((w.alloc (.cells #[.slice a la ca] 27)).alloc (.cells #[.slice b lb cb] 27)) w.heap.size 27 #[.slice a la ca] := (Row.new _ _ _).alloc _
  have hRb : Row ((w.alloc (.cells #[.slice a la ca] 27)).alloc (.cells #[.slice b lb cb] 27)) (w.heap.size + 1) 27 #[.slice b lb cb] := by
    have := Row.new (w.alloc (.cells #[.slice a la ca] 27)) 27 #[.slice b lb cb]
    rwa [World.size_alloc] at this
  have HW2 := Lib.hid hW2
  have HRa := Lib.hid hRa
  have HRb := Lib.hid hRb
  clear hW2 hRa hRb
  have hleg := fun w' => ag_legal left nn w'
  simp only [HG.out] at hleg
  gi_wp2_with fail
  refine (callsIn_wide.2 (hleg _)).mono ?_
  rintro e w' ⟨rfl, rfl⟩
  clear hleg
  gi_wp2_with fail
  refine (callsIn_wide.2 (ag_Right a la ca ra _ (HA.out.below (Nat.le_refl _) HW2.out))).mono ?_
  rintro e w3 ⟨rfl, hb3⟩
  rw [HKa.out]
  have hRb3 := (HRb.out.later hb3).cell 0
  have hB3 := HW2.out.trans (hb3.mono HW2.out.size)
  have HRa3 := Lib.hid (HRa.out.later hb3)
  have HRb3 := Lib.hid (HRb.out.later hb3)
  have HB3 := Lib.hid hB3
  clear hb3 hB3 HRa HRb HW2
  gi_wp2_with fail
  refine (callsIn_wide.2 (ag_Right b lb cb rb _ (HB.out.below (Nat.le_refl _) HB3.out))).mono ?_
  rintro e w4 ⟨rfl, hb4⟩
  rw [HKb.out]
  have HRa4 := Lib.hid (HRa3.out.later hb4)
  have HRb4 := Lib.hid (HRb3.out.later hb4)
  have HB4 := Lib.hid (HB3.out.trans (hb4.mono HB3.out.size))
  clear hb4 HRa3 HRb3 HB3 hRb3
  gi_wp2_with fail
  refine (callsIn_wide.2 (ag_hands left nn _)).mono ?_
  rintro e w5 ⟨rfl, rfl⟩
  gi_wp2_with fail
  have hb5 : Below w4.heap.size w4 ((((w4.alloc (.cells #[.int .i64 0] 3)).alloc (.cells #[.int .i64 0] 3)).alloc (.cells #[.int .u64 (left : Int)] 22)).alloc (.cells #[.int .i64 (nn : Int)] 3)) := ((((Below.refl _ _).alloc (Nat.le_refl _) _).alloc (by simp) _).alloc (by simp; omega) _).alloc (by simp; omega) _
  have hr1 : Row ((((w4.alloc (.cells #[.int .i64 0] 3)).alloc (.cells #[.int .i64 0] 3)).alloc (.cells #[.int .u64 (left : Int)] 22)).alloc (.cells #[.int .i64 (nn : Int)] 3)) w4.heap.size 3 #[.int .i64 0] := (((Row.new _ _ _).alloc _).alloc _).alloc _
  have hr2 : Row ((((w4.alloc (.cells #[.int .i64 0] 3)).alloc (.cells #[.int .i64 0] 3)).alloc (.cells #[.int .u64 (left : Int)] 22)).alloc (.cells #[.int .i64 (nn : Int)] 3)) (w4.heap.size + 1) 3 #[.int .i64 0] := by
    have := ((Row.new (w4.alloc (.cells #[.int .i64 0] 3)) 3 #[.int .i64 0]).alloc (.cells #[.int .u64 (left : Int)] 22)).alloc (.cells #[.int .i64 (nn : Int)] 3)
    rwa [World.size_alloc] at this
  have hr3 : Row ((((w4.alloc (.cells #[.int .i64 0] 3)).alloc (.cells #[.int .i64 0] 3)).alloc (.cells #[.int .u64 (left : Int)] 22)).alloc (.cells #[.int .i64 (nn : Int)] 3)) (w4.heap.size + 1 + 1) 22 #[.int .u64 (left : Int)] := by
    have := (Row.new ((w4.alloc (.cells #[.int .i64 0] 3)).alloc (.cells #[.int .i64 0] 3)) 22 #[.int .u64 (left : Int)]).alloc (.cells #[.int .i64 (nn : Int)] 3)
    rwa [World.size_alloc, World.size_alloc] at this
  have hr4 : Row ((((w4.alloc (.cells #[.int .i64 0] 3)).alloc (.cells #[.int .i64 0] 3)).alloc (.cells #[.int .u64 (left : Int)] 22)).alloc (.cells #[.int .i64 (nn : Int)] 3)) (w4.heap.size + 1 + 1 + 1) 3 #[.int .i64 (nn : Int)] := by
    have := Row.new (((w4.alloc (.cells #[.int .i64 0] 3)).alloc (.cells #[.int .i64 0] 3)).alloc (.cells #[.int .u64 (left : Int)] 22)) 3 #[.int .i64 (nn : Int)]
    rwa [World.size_alloc, World.size_alloc, World.size_alloc] at this
  have hsz4 : w.heap.size + 1 < w4.heap.size := HRb4.out.lt
  have hI0 : GI w w4.heap.size (w4.heap.size + 1) la ca lb cb a b 0 0 ((((w4.alloc (.cells #[.int .i64 0] 3)).alloc (.cells #[.int .i64 0] 3)).alloc (.cells #[.int .u64 (left : Int)] 22)).alloc (.cells #[.int .i64 (nn : Int)] 3)) :=
    ⟨HB4.out.trans (hb5.mono (by omega)), HRa4.out.later hb5, HRb4.out.later hb5, hr1, hr2⟩
  have hsz5 : ((((w4.alloc (.cells #[.int .i64 0] 3)).alloc (.cells #[.int .i64 0] 3)).alloc (.cells #[.int .u64 (left : Int)] 22)).alloc (.cells #[.int .i64 (nn : Int)] 3)).heap.size = w4.heap.size + 4 := by simp
  generalize ((((w4.alloc (.cells #[.int .i64 0] 3)).alloc (.cells #[.int .i64 0] 3)).alloc (.cells #[.int .u64 (left : Int)] 22)).alloc (.cells #[.int .i64 (nn : Int)] 3)) = W5 at *
  clear hb5 hr1 hr2 HRa4 HRb4 HB4
  have hc3 := hr3.cell 0
  have hc4 := hr4.cell 0
  clear hr3 hr4
  generalize w4.heap.size = b1 at *
  have HI0 := Lib.hid hI0
  have HSZ := Lib.hid hsz5
  have HS4 := Lib.hid hsz4
  clear hI0 hsz5 hsz4
  refine wpIn_range_box (σ := Nat × Nat) (K := fun _ => False) (xs := cellsOf left nn) (w0 := W5) rfl (by decide) rfl trivial (enters_of Try.func71 (by kernel_rfl) rfl) (hands1_seq 8 left nn (b1 + 1 + 1) (b1 + 1 + 1 + 1) hl hn W5 hc3 hc4 _) (Below.refl _ _) (fun _ h => h.elim) (fun _ => rfl)
    (fun pre W => GI w b1 (b1 + 1) la ca lb cb a b (allC (fun l p => fitP ra l p) pre) (allC (fun l p => fitP ra l p && fitP rb l p) pre) W) (GI.shut (by have := HSZ.out; have := HS4.out; omega) (by have := HSZ.out; omega) (by have := HSZ.out; omega)) HI0.out
    (BxC (b1 + 1)) (fun x u W l o o' h hl ho => h.putObj o' hl ho) putC ?assign ?body ?done
  case assign =>
    intro l pre suf x W L hx hi hsz hL
    have hz := zero83
    gi_wp2_with (refine wpListIn_store_row rfl 136 (.tmp 14) (.tmp 37) rfl (W.heap.size + 1) (tab 41 x.2) rfl rfl 136 _ (Row.new1 W _ _ _) (by rw [size83, tab_size]) (by rw [tab_size, tab_size]) (tab_one _ _) ?_)
    have hb : Below W.heap.size W (((W.alloc (.cells (larr x.1) 112)).alloc (.cells (tab 41 fun _ => 0) 136)).setRow (W.heap.size + 1) (tab 41 x.2)) := below_setRow (((Below.refl _ _).alloc (Nat.le_refl _) _).alloc (by simp) _) (by omega) _
    have hfin := hL (W.heap.size, W.heap.size + 1) _ (Stays.of_below hb) (GI.later hi hb) ⟨((Row.new W _ (larr x.1)).alloc _).same (setRow_other _ _ _ _ (by omega)), setRow_heap _ _ _ _ _ _ (Row.new1 W _ _ _), by have := HSZ.out; show b1 + 1 < W.heap.size; omega, by have := HSZ.out; show b1 + 1 < W.heap.size + 1; omega⟩
    simp only [putC] at hfin
    simpa using hfin
  case body =>
    intro l pre suf x u W hx hi hbx hsz
    have hx6 := (hi.ra.cell 0)
    have hx7 := (hi.rb.cell 0)
    have H6 := Lib.hid hi.ra
    have H7 := Lib.hid hi.rb
    have HI := Lib.hid hi
    have HL := Lib.hid hbx.len
    have HS := Lib.hid hbx.sp
    have HU := Lib.hid (And.intro hbx.l1 hbx.l2)
    have HKa1 : Hid (ra.all Rg.ok = true) := Lib.hid (by have := HKa.out; simp only [rightV, Bool.and_eq_true] at this; exact this.2)
    have HKb1 : Hid (rb.all Rg.ok = true) := Lib.hid (by have := HKb.out; simp only [rightV, Bool.and_eq_true] at this; exact this.2)
    clear hx6 hx7 hi hbx
    gi_wp2_with fail
    simp only [putC, List.setIfInBounds_toArray, List.set_cons_succ, List.set_cons_zero]
    refine wpIn_region_reliesS (FS W [some (.slice a la ca), some (.agg (larr x.1)), some (.agg (tabB 41 (fitP ra x.1))), some (.slice b lb cb), some (.agg (larr x.1)), some (.agg (tabB 41 (fitP rb x.1))), none, none, some (undef), some (undef)] [⟨6, 8, 137, tabB 41 fun _ => false, tabB 41 (fitP ra x.1)⟩, ⟨7, 9, 137, tabB 41 fun _ => false, tabB 41 (fitP rb x.1)⟩]) (by kernel_rfl) (by kernel_rfl) (by kernel_rfl) (by kernel_rfl) (by kernel_rfl) FS.start ?obls ?fini
    case obls =>
      refine ⟨?_, ?_, ?_, ?_, ?_, ?_, ?_, ?_, ?_, ?_, trivial⟩
      · -- 0
        intro ρ fd w' hF hfi hw hcl hf
        have f6 : ρ (.tmp 6) = .pointer (some ⟨w.heap.size, 0, none⟩) := hf.1 6 (by simp [Op.operands])
        have hc := (H6.out.later (hF.below)).cell 0
        simp only [List.getElem?_toArray, List.getElem?_cons_zero] at hc
        exact ok_value (v := .slice a la ca) (w' := w') (by simp [execOp, f6, go_sem, hc]) (hF.step 0 (.slice a la ca) rfl (by simp) (Below.refl _ _))
      · -- 1
        intro ρ fd w' hF hfi hw hcl hf
        have f13 : ρ (.tmp 13) = .pointer (some ⟨u.1, 0, none⟩) := hf.1 13 (by simp [Op.operands])
        have hr := HL.out.later (hF.below)
        exact ok_value (exec_load_row 112 (.tmp 13) rfl u.1 f13 hr under81 rfl (by rw [size81]; rfl)) (hF.step 1 (.agg (larr x.1)) rfl (by simp) (Below.refl _ _))
      · -- 2
        intro ρ fd w' hF hfi hw hcl hf
        have f38 : ρ (.tmp 38) = .slice a la ca := hF.val (i := 0) rfl (by simp) (hf.1 38 (by simp [Op.operands, Call.operands]))
        have f39 : ρ (.tmp 39) = .agg (larr x.1) := hF.val (i := 1) rfl (by simp) (hf.1 39 (by simp [Op.operands, Call.operands]))
        exact ok_call (args := #[.slice a la ca, .agg (larr x.1)]) (by simp [execOp, f38, f39, hf.2.2.2, go_sem]) ((ag_fitting a la ca ra x.1 w' (HA.out.below (Nat.le_refl _) (HI.out.below.trans (hF.below.mono HI.out.below.size))) HKa1.out).mono fun e w2 h => ⟨_, h.1, hF.step 2 (.agg (tabB 41 (fitP ra x.1))) rfl (by simp) h.2⟩)
      · -- 3
        intro ρ fd w' hF hfi hw hcl hf
        have f7 : ρ (.tmp 7) = .pointer (some ⟨(w.heap.size + 1), 0, none⟩) := hf.1 7 (by simp [Op.operands])
        have hc := (H7.out.later (hF.below)).cell 0
        simp only [List.getElem?_toArray, List.getElem?_cons_zero] at hc
        exact ok_value (v := .slice b lb cb) (w' := w') (by simp [execOp, f7, go_sem, hc]) (hF.step 3 (.slice b lb cb) rfl (by simp) (Below.refl _ _))
      · -- 4
        intro ρ fd w' hF hfi hw hcl hf
        have f13 : ρ (.tmp 13) = .pointer (some ⟨u.1, 0, none⟩) := hf.1 13 (by simp [Op.operands])
        have hr := HL.out.later (hF.below)
        exact ok_value (exec_load_row 112 (.tmp 13) rfl u.1 f13 hr under81 rfl (by rw [size81]; rfl)) (hF.step 4 (.agg (larr x.1)) rfl (by simp) (Below.refl _ _))
      · -- 5
        intro ρ fd w' hF hfi hw hcl hf
        have f41 : ρ (.tmp 41) = .slice b lb cb := hF.val (i := 3) rfl (by simp) (hf.1 41 (by simp [Op.operands, Call.operands]))
        have f42 : ρ (.tmp 42) = .agg (larr x.1) := hF.val (i := 4) rfl (by simp) (hf.1 42 (by simp [Op.operands, Call.operands]))
        exact ok_call (args := #[.slice b lb cb, .agg (larr x.1)]) (by simp [execOp, f41, f42, hf.2.2.2, go_sem]) ((ag_fitting b lb cb rb x.1 w' (HB.out.below (Nat.le_refl _) (HI.out.below.trans (hF.below.mono HI.out.below.size))) HKb1.out).mono fun e w2 h => ⟨_, h.1, hF.step 5 (.agg (tabB 41 (fitP rb x.1))) rfl (by simp) h.2⟩)
      · -- 6
        intro ρ fd w' hF hfi hw hcl hf
        have n6 : fd 8 = none := none_fs hcl hfi (by decide)
        exact ok_value (exec_alloc 137 rfl zero84) (hF.alloc (by constructor <;> simp) ⟨6, 8, 137, tabB 41 fun _ => false, tabB 41 (fitP ra x.1)⟩ (by simp) n6)
      · -- 7
        intro ρ fd w' hF hfi hw hcl hf
        have n7 : fd 9 = none := none_fs hcl hfi (by decide)
        exact ok_value (exec_alloc 137 rfl zero84) (hF.alloc (by constructor <;> simp) ⟨7, 9, 137, tabB 41 fun _ => false, tabB 41 (fitP rb x.1)⟩ (by simp) n7)
      · -- 8
        intro ρ fd w' hF hfi hw hcl hf
        have f15 : fd 6 = some (ρ (.tmp 15)) := hf.1 15 (by simp [Op.operands])
        have f40 : ρ (.tmp 40) = .agg (tabB 41 (fitP ra x.1)) := hF.val (i := 2) rfl (by simp) (hf.1 40 (by simp [Op.operands]))
        obtain ⟨b, hb, -, hr⟩ := hF.row ⟨6, 8, 137, tabB 41 fun _ => false, tabB 41 (fitP ra x.1)⟩ (by simp) hfi f15
        rw [hb] at f15
        exact ok_skip_fs (exec_store_row 137 (.tmp 15) (.tmp 40) rfl b (tabB 41 (fitP ra x.1)) hb f40 hr (by rw [size84, tabB_size]) (by simp) (tabB_one _ _)) (hF.store (by constructor <;> simp) ⟨6, 8, 137, tabB 41 fun _ => false, tabB 41 (fitP ra x.1)⟩ (by simp) rfl f15)
      · -- 9
        intro ρ fd w' hF hfi hw hcl hf
        have f16 : fd 7 = some (ρ (.tmp 16)) := hf.1 16 (by simp [Op.operands])
        have f43 : ρ (.tmp 43) = .agg (tabB 41 (fitP rb x.1)) := hF.val (i := 5) rfl (by simp) (hf.1 43 (by simp [Op.operands]))
        obtain ⟨b, hb, -, hr⟩ := hF.row ⟨7, 9, 137, tabB 41 fun _ => false, tabB 41 (fitP rb x.1)⟩ (by simp) hfi f16
        rw [hb] at f16
        exact ok_skip_fs (exec_store_row 137 (.tmp 16) (.tmp 43) rfl b (tabB 41 (fitP rb x.1)) hb f43 hr (by rw [size84, tabB_size]) (by simp) (tabB_one _ _)) (hF.store (by constructor <;> simp) ⟨7, 9, 137, tabB 41 fun _ => false, tabB 41 (fitP rb x.1)⟩ (by simp) rfl f16)
    case fini =>
      intro vs w5 hlen hF
      have hl0 : vs.length = 10 := hlen
      clear hlen
      obtain ⟨v0, t0, rfl, hl1⟩ := uncons_fs hl0
      clear hl0
      obtain ⟨v1, t1, rfl, hl2⟩ := uncons_fs hl1
      clear hl1
      obtain ⟨v2, t2, rfl, hl3⟩ := uncons_fs hl2
      clear hl2
      obtain ⟨v3, t3, rfl, hl4⟩ := uncons_fs hl3
      clear hl3
      obtain ⟨v4, t4, rfl, hl5⟩ := uncons_fs hl4
      clear hl4
      obtain ⟨v5, t5, rfl, hl6⟩ := uncons_fs hl5
      clear hl5
      obtain ⟨v6, t6, rfl, hl7⟩ := uncons_fs hl6
      clear hl6
      obtain ⟨v7, t7, rfl, hl8⟩ := uncons_fs hl7
      clear hl7
      obtain ⟨v8, t8, rfl, hl9⟩ := uncons_fs hl8
      clear hl8
      obtain ⟨v9, t9, rfl, hl10⟩ := uncons_fs hl9
      clear hl9
      obtain rfl := List.eq_nil_of_length_eq_zero hl10
      clear hl10
      obtain ⟨b6, rfl, hB6, hR6⟩ := hF.rows ⟨6, 8, 137, tabB 41 fun _ => false, tabB 41 (fitP ra x.1)⟩ (by simp) v6 rfl
      replace hR6 : Row w5 b6 137 (tabB 41 (fitP ra x.1)) := hR6
      obtain ⟨b7, rfl, hB7, hR7⟩ := hF.rows ⟨7, 9, 137, tabB 41 fun _ => false, tabB 41 (fitP rb x.1)⟩ (by simp) v7 rfl
      replace hR7 : Row w5 b7 137 (tabB 41 (fitP rb x.1)) := hR7
      obtain rfl := hF.val (i := 0) (v := v0) rfl (by simp) rfl
      obtain rfl := hF.val (i := 1) (v := v1) rfl (by simp) rfl
      obtain rfl := hF.val (i := 2) (v := v2) rfl (by simp) rfl
      obtain rfl := hF.val (i := 3) (v := v3) rfl (by simp) rfl
      obtain rfl := hF.val (i := 4) (v := v4) rfl (by simp) rfl
      obtain rfl := hF.val (i := 5) (v := v5) rfl (by simp) rfl
      obtain rfl := hF.val (i := 8) (v := v8) rfl (by simp) rfl
      obtain rfl := hF.val (i := 9) (v := v9) rfl (by simp) rfl
      have hB5 := hF.below
      clear hF
      simp only [putAll, List.zip_cons_cons, List.zip_nil_right, List.foldl_cons, List.foldl_nil]
      simp only [Act.put, List.setIfInBounds_toArray, List.set_cons_succ, List.set_cons_zero]
      have hG5 := HI.out.later hB5
      have hS5 := HS.out.later hB5
      have hst5 : Stays (fun _ => False) W5.heap.size W w5 := Stays.of_below hB5
      have h61 : b6 ≠ b1 ∧ b6 ≠ b1 + 1 ∧ b7 ≠ b1 ∧ b7 ≠ b1 + 1 := by have := HSZ.out; omega
      have HB5 := Lib.hid hB5
      clear hB5 hB6 hB7
      obtain ⟨A, HAA⟩ : ∃ A, Hid (allC (fun l p => fitP ra l p) pre = A) := ⟨_, Lib.hid rfl⟩
      obtain ⟨B, HBB⟩ : ∃ B, Hid (allC (fun l p => fitP ra l p && fitP rb l p) pre = B) := ⟨_, Lib.hid rfl⟩
      have hbd : A + oneC (fun l p => fitP ra l p) x ≤ 4611686018427387904 ∧ B + oneC (fun l p => fitP ra l p && fitP rb l p) x ≤ 4611686018427387904 := by
        have h1 := Nat.le_trans (allC_le (fun l p => fitP ra l p) (cellsOf left nn)) HT.out
        have h2 := Nat.le_trans (allC_le (fun l p => fitP ra l p && fitP rb l p) (cellsOf left nn)) HT.out
        rw [hx, allC_append] at h1 h2
        simp only [allC] at h1 h2
        rw [HAA.out] at h1
        rw [HBB.out] at h2
        omega
      rw [HAA.out, HBB.out] at hG5
      have HP1 : Hid (allC (fun l p => fitP ra l p) (pre ++ [x]) = A + oneC (fun l p => fitP ra l p) x) := Lib.hid (by rw [allC_append, HAA.out]; simp [allC])
      have HP2 : Hid (allC (fun l p => fitP ra l p && fitP rb l p) (pre ++ [x]) = B + oneC (fun l p => fitP ra l p && fitP rb l p) x) := Lib.hid (by rw [allC_append, HBB.out]; simp [allC])
      have HBD := Lib.hid hbd
      clear hbd
      gi_wp2_with (refine wpListIn_load_row rfl 136 (.tmp 14) rfl u.2 rfl 136 (tab 41 x.2) (0, 0) _ hS5 under83 rfl (by rw [size83, tab_size]) ?_)
      clear hS5
      gi_loopw [45] (fun i wr => ∃ (k : Nat), k ≤ 41 ∧ i = .int .i64 (k : Int) ∧ GI w b1 (b1 + 1) la ca lb cb a b (A + sumN k (fun p => if fitP ra x.1 p then x.2 p else 0)) (B + sumN k (fun p => if fitP ra x.1 p && fitP rb x.1 p then x.2 p else 0)) wr ∧ Row wr b6 137 (tabB 41 (fitP ra x.1)) ∧ Row wr b7 137 (tabB 41 (fitP rb x.1)) ∧ Stays (fun _ => False) W5.heap.size W wr) (fun i _ => 41 - (intOf i).toNat)
      case atStart => exact ⟨0, by omega, rfl, hG5, hR6, hR7, hst5⟩
      case round =>
        obtain ⟨k, hk, rfl, hG, h6, h7, hst⟩ := hrel
        by_cases hlt : k < 41
        · have d41 : decide ((k : Int) < 41) = true := by simp; omega
          have hix := run_index_tab 136 3 41 k (tab 41 x.2) _ under83 size3 agg3 hlt (tab_get 41 x.2 k hlt)
          have hc6 := (h6.cell k).trans (tabB_get 41 _ k hlt)
          have hc7 := (h7.cell k).trans (tabB_get 41 _ k hlt)
          have HN1 : Hid (sumN (k + 1) (fun p => if fitP ra x.1 p then x.2 p else 0) = sumN k (fun p => if fitP ra x.1 p then x.2 p else 0) + if fitP ra x.1 k then x.2 k else 0) := Lib.hid rfl
          have HN2 : Hid (sumN (k + 1) (fun p => if fitP ra x.1 p && fitP rb x.1 p then x.2 p else 0) = sumN k (fun p => if fitP ra x.1 p && fitP rb x.1 p then x.2 p else 0) + if fitP ra x.1 k && fitP rb x.1 k then x.2 k else 0) := Lib.hid rfl
          have hle1 : sumN (k + 1) (fun p => if fitP ra x.1 p then x.2 p else 0) ≤ oneC (fun l p => fitP ra l p) x := sumN_mono _ (by omega)
          have hle2 : sumN (k + 1) (fun p => if fitP ra x.1 p && fitP rb x.1 p then x.2 p else 0) ≤ oneC (fun l p => fitP ra l p && fitP rb l p) x := sumN_mono _ (by omega)
          have hbd := HBD.out
          rw [HN1.out] at hle1
          rw [HN2.out] at hle2
          obtain ⟨va, Hva⟩ : ∃ va, Hid (A + sumN k (fun p => if fitP ra x.1 p then x.2 p else 0) = va) := ⟨_, Lib.hid rfl⟩
          obtain ⟨vb, Hvb⟩ : ∃ vb, Hid (B + sumN k (fun p => if fitP ra x.1 p && fitP rb x.1 p then x.2 p else 0) = vb) := ⟨_, Lib.hid rfl⟩
          rw [Hva.out, Hvb.out] at hG
          cases hfa : fitP ra x.1 k
          · rw [hfa] at hc6 HN1 HN2
            have HFA := Lib.hid hfa
            have HG1 := Lib.hid hG
            have HST := Lib.hid hst
            have H66 := Lib.hid h6
            have H77 := Lib.hid h7
            clear hle1 hle2 hbd hfa hG hst h6 h7
            gi_wp2_with fail
            refine ⟨⟨k + 1, by omega, by simp, ?_, H66.out, H77.out, HST.out⟩, by simp [intOf]; omega⟩
            rw [HN1.out, HN2.out]
            have := HG1.out
            rw [← Hva.out, ← Hvb.out] at this
            simpa using this
          · rw [hfa] at hc6 HN1 HN2 hle1 hle2
            obtain ⟨c, Hc⟩ : ∃ c, Hid (x.2 k = c) := ⟨_, Lib.hid rfl⟩
            rw [Hc.out] at hix hle1 hle2 HN1 HN2
            rw [if_pos rfl] at hle1 HN1
            simp only [Bool.true_and] at hle2 HN2
            have hv1 : va + c ≤ 4611686018427387904 := by rw [← Hva.out]; omega
            have hone := hG.one.cell 0
            have hfone := hG.one.frozen 0
            have hl1 : w.heap.size + 1 < b1 := HS4.out
            have hG6 := hG.set1 hl1 (by omega) (va + c)
            have h66 := h6.other (i := 0) (v := .int .i64 ((va + c : Nat) : Int)) h61.1
            have h76 := h7.other (i := 0) (v := .int .i64 ((va + c : Nat) : Int)) h61.2.2.1
            have hst6 := hst.setCell (p := ⟨b1, 0, none⟩) (by simp) (by have := HSZ.out; show b1 < _; omega) (.int .i64 ((va + c : Nat) : Int))
            rw [show ((va + c : Nat) : Int) = (va : Int) + (c : Int) by simp] at hG6 h66 h76 hst6
            have hd6 := (h66.cell k).trans (tabB_get 41 _ k hlt)
            have hd7 := (h76.cell k).trans (tabB_get 41 _ k hlt)
            have htwo := hG6.two.cell 0
            have hftwo := hG6.two.frozen 0
            rw [hfa] at hd6
            cases hfb : fitP rb x.1 k
            · rw [hfb] at hc7 HN2 hd7
              have HFA := Lib.hid hfa
              have HFB := Lib.hid hfb
              have HG1 := Lib.hid hG6
              have HST := Lib.hid hst6
              have H66 := Lib.hid h66
              have H77 := Lib.hid h76
              clear hle1 hle2 hbd hfa hfb hG hst h6 h7 hG6 hst6 h66 h76
              gi_wp2_with fail
              refine ⟨⟨k + 1, by omega, by simp, ?_, H66.out, H77.out, HST.out⟩, by simp [intOf]; omega⟩
              rw [HN1.out, HN2.out, ← Nat.add_assoc, Hva.out]
              have := HG1.out
              rw [← Hvb.out] at this
              simpa using this
            · rw [hfb] at hc7 HN2 hd7 hle2
              rw [if_pos rfl] at hle2 HN2
              have hv2 : vb + c ≤ 4611686018427387904 := by rw [← Hvb.out]; omega
              have hG7 := hG6.set2 (by omega) (by omega) (vb + c)
              have h67 := h66.other (i := 0) (v := .int .i64 ((vb + c : Nat) : Int)) h61.2.1
              have h77 := h76.other (i := 0) (v := .int .i64 ((vb + c : Nat) : Int)) h61.2.2.2
              have hst7 := hst6.setCell (p := ⟨b1 + 1, 0, none⟩) (by simp) (by have := HSZ.out; show b1 + 1 < _; omega) (.int .i64 ((vb + c : Nat) : Int))
              rw [show ((vb + c : Nat) : Int) = (vb : Int) + (c : Int) by simp] at hG7 h67 h77 hst7
              have HFA := Lib.hid hfa
              have HFB := Lib.hid hfb
              have HG1 := Lib.hid hG7
              have HST := Lib.hid hst7
              have H66 := Lib.hid h67
              have H77 := Lib.hid h77
              clear hle1 hle2 hbd hfa hfb hG hst h6 h7 hG6 hst6 h66 h76 hG7 hst7 h67 h77
              gi_wp2_with fail
              refine ⟨⟨k + 1, by omega, by simp, ?_, H66.out, H77.out, HST.out⟩, by simp [intOf]; omega⟩
              rw [HN1.out, HN2.out, ← Nat.add_assoc, Hva.out, ← Nat.add_assoc, Hvb.out]
              have := HG1.out
              simpa using this
        · obtain rfl : k = 41 := by omega
          have HG1 := Lib.hid hG
          have HST := Lib.hid hst
          clear hG hst h6 h7
          gi_wp2_with fail
          refine ⟨HST.out, ?_⟩
          rw [HP1.out, HP2.out]
          exact HG1.out
  case done =>
    intro D W hD hG hK
    have h1 := hG.one.cell 0
    have h2 := hG.two.cell 0
    have HG1 := Lib.hid hG
    clear hG
    gi_wp2
    gi_region
    gi_wp2
    have hK2 : W.drew.heap[D]? = some (.deferred (some [])) := hK
    refine ⟨by simp, .inl ⟨_, _, rfl, run_takeDeferred hK2, ?_⟩⟩
    exact ⟨_, results_tmp3 rfl _ _ _, rfl, HG1.out.below.drew.trans (belowK_b (w := w) (Nat.le_refl _) W.drew D _ _ (by have := HSZ.out; have := HS4.out; omega) hK2 rfl rfl)⟩
end Go.Proofs.Ytikdkhiehfccpaa
