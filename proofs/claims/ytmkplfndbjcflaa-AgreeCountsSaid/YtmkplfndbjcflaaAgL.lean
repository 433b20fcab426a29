/- Contract of agree.fitting over this seat's program. -/
import Derived.Test.YtmkplfndbjcflaaAgK
namespace Go.Proofs.Ytmkplfndbjcflaa
open Go.RowKit Go.Sort Cnt

/-- the points for which hands of these lengths fit one of the ranges -/
def fitP (rs : List Rg) (l : Nat → Nat) (p : Nat) : Bool := rs.any fun r => r.long l && wthn p r.p0 r.p1
/-- one range more, from its least points to x - 1 -/
def fitX (f : Nat → Bool) (lo x : Nat) : Nat → Bool := fun p => f p || (decide (lo ≤ p) && decide (p < x))
theorem fitX_step (f : Nat → Bool) (lo x : Nat) (h : lo ≤ x) : turnB (fitX f lo x) x true = fitX f lo (x + 1) := by
  funext p
  unfold turnB fitX
  by_cases e : p = x
  · subst e
    simp [h]
  · rw [if_neg e]
    have : (decide (p < x + 1)) = decide (p < x) := by by_cases h2 : p < x <;> simp <;> omega
    rw [this]
theorem fitP_no {rs : List Rg} {l : Nat → Nat} {k : Nat} {r : Rg} (hr : rs[k]? = some r) (h : r.long l = false) : fitP (rs.take (k + 1)) l = fitP (rs.take k) l := by
  funext p
  unfold fitP
  rw [List.take_add_one, hr, List.any_append]
  simp [h]
theorem fitP_yes {rs : List Rg} {l : Nat → Nat} {k lo hi : Nat} {r : Rg} (hr : rs[k]? = some r) (h : r.long l = true) (h0 : r.p0 = (lo : Int)) (h1 : r.p1 = (hi : Int)) : fitP (rs.take (k + 1)) l = fitX (fitP (rs.take k) l) lo (hi + 1) := by
  funext p
  unfold fitP fitX
  rw [List.take_add_one, hr, List.any_append]
  simp [h, wthn, h0, h1]
  rw [show decide (p ≤ hi) = decide (p < hi + 1) by rw [decide_eq_decide]; omega]
theorem under84 : Try.prog.underlying 84 = some (.array 41 4) := by kernel_rfl
theorem size84 : (Try.prog.info? 84).map (·.size) = some 41 := by kernel_rfl
theorem zero84 : ∀ w : World, (zeroValue 84).run Try.prog w = .ok (.agg (tabB 41 fun _ => false)) w := by
  have h : (Try.prog.info? 84).map (fun i => (i.zero, i.size)) = some (some (.agg (tabB 41 fun _ => false)), 41) := by kernel_rfl
  cases hq : Try.prog.info? 84 with
  | none => simp [hq] at h
  | some i =>
    simp [hq] at h
    intro w
    simp [zeroValue, typeInfo, hq, h.1]
/-- the world in the loops of fitting -/
structure FW (w wr : World) (b1 b2 : Nat) (l : Nat → Nat) (f : Nat → Bool) : Prop where
  below : Below w.heap.size w wr
  l1 : w.heap.size < b1
  l2 : b1 < b2
  len : Row wr w.heap.size 81 (larr l)
  res : Row wr b1 84 (tabB 41 fun _ => false)
  row : Row wr b2 84 (tabB 41 f)
theorem FW.step {w wr wa : World} {b1 b2 : Nat} {l : Nat → Nat} {f : Nat → Bool} (h : FW w wr b1 b2 l f) (hb : Below wr.heap.size wr wa) : FW w wa b1 b2 l f :=
  ⟨h.below.trans (hb.mono h.below.size), h.l1, h.l2, h.len.later hb, h.res.later hb, h.row.later hb⟩
theorem FW.set {w wr : World} {b1 b2 : Nat} {l : Nat → Nat} {f : Nat → Bool} (h : FW w wr b1 b2 l f) (i : Nat) : FW w (wr.setCell ⟨b2, i, none⟩ (.bool true)) b1 b2 l (turnB f i true) := by
  obtain ⟨hb, l1, l2, o, r, s⟩ := h
  refine ⟨hb.setCell (by show w.heap.size ≤ b2; omega) _, l1, l2, o.other (by omega), r.other (by omega), ?_⟩
  have := s.set i (.bool true)
  rwa [tabB_set] at this

set_option maxRecDepth 5000 in
theorem ag_fitting (a : Option Addr) (len cap : Nat) (rs : List Rg) (l : Nat → Nat) (w : World) (hr : Rgs w a len rs) (hok : rs.all Rg.ok = true) :
    Calls Try.prog 42 #[.slice a len cap, .agg (larr l)] w fun e w' => e = .returned (.agg (tabB 41 (fitP rs l))) ∧ Below w.heap.size w w' := by
  have hsm := hr.small
  have HR := Lib.hid hr
  have HOK := Lib.hid hok
  clear hr hok
  have hz := zero84
  go_enter Try.func42, Try.ntmps42
  go_upto_region 2 with fail
  have hI : FW w (((w.alloc (.cells (larr l) 81)).alloc (.cells (tabB 41 fun _ => false) 84)).alloc (.cells (tabB 41 fun _ => false) 84)) (w.heap.size + 1) (w.heap.size + 1 + 1) l (fitP (rs.take 0) l) := by
    refine ⟨(((Below.refl _ _).alloc (Nat.le_refl _) _).alloc (by simp) _).alloc (by simp; omega) _, by omega, by omega, ((Row.new _ _ _).alloc _).alloc _, ?_, ?_⟩
    · have := (Row.new (w.alloc (.cells (larr l) 81)) 84 (tabB 41 fun _ => false)).alloc (.cells (tabB 41 fun _ => false) 84)
      rwa [World.size_alloc] at this
    · have := Row.new ((w.alloc (.cells (larr l) 81)).alloc (.cells (tabB 41 fun _ => false) 84)) 84 (tabB 41 fun _ => false)
      rwa [World.size_alloc, World.size_alloc] at this
  clear hz
  generalize ((w.alloc (.cells (larr l) 81)).alloc (.cells (tabB 41 fun _ => false) 84)).alloc (.cells (tabB 41 fun _ => false) 84) = W0 at *
  generalize w.heap.size + 1 + 1 = b2 at *
  generalize w.heap.size + 1 = b1 at *
  go_wp2_with fail
  go_loopw [11] (fun i wr => ∃ (k : Nat), k ≤ len ∧ i = .int .i64 (k : Int) ∧ FW w wr b1 b2 l (fitP (rs.take k) l)) (fun i _ => len - (intOf i).toNat)
  case atStart => exact ⟨0, by omega, rfl, hI⟩
  case round =>
    obtain ⟨k, hk, rfl, hF⟩ := hrel
    by_cases hlt : k < len
    · obtain ⟨b, off, r, rfl, hbl, hr, c0, c1, c2, c3, c4, c5, c6, c7, c8, c9⟩ := (HR.out.below (Nat.le_refl _) hF.below).ten hlt
      have HK := Lib.hid hr
      have hrok : r.ok = true := (List.all_eq_true.1 HOK.out) r (List.mem_of_getElem? hr)
      have hp : ∃ lo hi : Nat, r.p0 = (lo : Int) ∧ r.p1 = (hi : Int) ∧ lo ≤ hi ∧ hi ≤ 40 := by
        simp only [Rg.ok, ordB, Bool.and_eq_true, decide_eq_true_eq] at hrok
        exact ⟨r.p0.toNat, r.p1.toNat, by omega, by omega, by omega, by omega⟩
      obtain ⟨lo, hi, hp0, hp1, hpl, hph⟩ := hp
      clear hr hrok
      have hwl := hF.len.lt
      have hd0 := hF.len.cell 0
      have hd1 := hF.len.cell 1
      have hd2 := hF.len.cell 2
      have hd3 := hF.len.cell 3
      simp only [List.getElem?_toArray, List.getElem?_cons_zero, List.getElem?_cons_succ] at hd0 hd1 hd2 hd3
      cases hlong : r.long l
      · have HN := Lib.hid (fitP_no HK.out hlong)
        have HF := Lib.hid hF
        have HP := Lib.hid (And.intro hp0 hp1)
        clear hF hp0 hp1
        go_wp2_with (go_at_call 52; refine (ag_long r l _).mono ?_; rintro e w' ⟨rfl, hb1⟩)
        refine ⟨⟨k + 1, by omega, by simp, ?_⟩, by simp [intOf]; omega⟩
        rw [HN.out]
        exact HF.out.step (bel_alloc (Below.refl _ _) (Nat.le_refl _) hb1)
      · have HN := Lib.hid (fitP_yes HK.out hlong hp0 hp1)
        have HF := Lib.hid hF
        have HP := Lib.hid (And.intro hp0 hp1)
        clear hF hp0 hp1
        go_wp2_with (go_at_call 52; refine (ag_long r l _).mono ?_; rintro e w' ⟨rfl, hb1⟩; obtain ⟨q0, q1, q2, q3, q4, q5, q6, q7, q8, q9⟩ := ten_new hb1)
        have hb2l : b2 < wr.heap.size := HF.out.row.lt
        have hF2 := HF.out.step (bel_alloc (Below.refl _ _) (Nat.le_refl _) hb1)
        have HX0 : fitX (fitP (rs.take k) l) lo lo = fitP (rs.take k) l := by
          funext p
          unfold fitX
          have : (decide (lo ≤ p) && decide (p < lo)) = false := by
            by_cases h : lo ≤ p
            · simp [h]
            · simp [h]
          rw [this, Bool.or_false]
        rw [← HX0] at hF2
        generalize fitP (rs.take k) l = f0 at *
        generalize wr.heap.size = b3 at *
        clear HX0 q0 q2 q3 q4 q5 q6 q7 q8 q9 c0 c1 c2 c3 c4 c5 c6 c7 c8 c9 hd0 hd1 hd2 hd3
        go_loopw [8] (fun v wi => ∃ x : Nat, lo ≤ x ∧ x ≤ hi + 1 ∧ v = .int .i64 (x : Int) ∧ wi.cell? ⟨b3, 1, none⟩ = some (.int .i64 r.p1) ∧ FW w wi b1 b2 l (fitX f0 lo x)) (fun v _ => hi + 1 - (intOf v).toNat)
        case atStart => exact ⟨lo, Nat.le_refl _, by omega, by rw [HP.out.1], q1, hF2⟩
        case round =>
          obtain ⟨x, hx1, hx2, rfl, hq1, hFx⟩ := hrel
          by_cases hxl : x ≤ hi
          · have dx : decide ((x : Int) ≤ r.p1) = true := by rw [HP.out.2]; simp; omega
            have hx41 : (x : Int) < 41 := by omega
            have hcx : wr.cell? ⟨b2, x, none⟩ = some (.bool (fitX f0 lo x x)) := by rw [hFx.row.cell, tabB_get _ _ _ (by omega)]
            have hfx := hFx.row.frozen x
            have HS := Lib.hid (hFx.set x)
            have HT := Lib.hid (fitX_step f0 lo x hx1)
            have hq2 : (wr.setCell ⟨b2, x, none⟩ (.bool true)).cell? ⟨b3, 1, none⟩ = some (.int .i64 r.p1) := (World.cell?_of_block (Below.heap_setCell _ _ _ _ (by show b3 ≠ b2; omega))).trans hq1
            have HQ := Lib.hid hq2
            clear hFx hq2
            go_wp2_with fail
            refine ⟨⟨x + 1, by omega, by omega, by simp, HQ.out, ?_⟩, by simp [intOf]; omega⟩
            rw [← HT.out]
            exact HS.out
          · obtain rfl : x = hi + 1 := by omega
            have dx : decide ((hi : Int) + 1 ≤ r.p1) = false := by rw [HP.out.2]; simp; omega
            have HS := Lib.hid hFx
            clear hFx
            go_wp2_with fail
            refine ⟨⟨k + 1, by omega, by simp, ?_⟩, by simp [intOf]; omega⟩
            rw [HN.out]
            exact HS.out
    · obtain rfl : k = len := by omega
      have hT : rs.take k = rs := List.take_of_length_le (by have := HR.out.length; omega)
      rw [hT] at hF
      have hr0 := hF.res
      have hr := hF.row
      have HB2 := Lib.hid hF.below
      have hl2 : w.heap.size ≤ b1 := by have := hF.l1; omega
      clear hI hF hT
      go_wp2_with (first
        | refine wpList_load_row rfl 84 (.tmp 5) rfl b2 rfl 84 (tabB 41 (fitP rs l)) (0, 0) _ hr under84 rfl (by rw [size84, tabB_size]) ?_
        | refine wpList_store_row rfl 84 (.tmp 4) (.tmp 32) rfl b1 (tabB 41 (fitP rs l)) rfl rfl 84 _ hr0 (by rw [size84, tabB_size]) (by rw [tabB_size, tabB_size]) (tabB_one _ _) ?_)
      refine bodyPost_ret (v := .agg (tabB 41 (fitP rs l))) (results_cell_row (p := 4) rfl _ _ b1 _ (tabB 41 (fitP rs l)) (0, 0) _ rfl (setRow_heap _ _ _ _ _ _ hr0) under84 rfl (by rw [size84, tabB_size])) rfl ⟨rfl, below_setRow HB2.out hl2 _⟩
end Go.Proofs.Ytmkplfndbjcflaa
