/- RpA, RpB, RpC in one text. -/
import Derived.Test.YtginbellakkliaaDoorPlayable

/- Plain facts on masks and tricks (for the reference). -/
namespace Go.Proofs.YtginbellakkliaaDoor
open Go.RowKit Go.Sort Go.Shelf

theorem z_testBit_lor_shl1 (m c i : Nat) (hc : c < 64) : (lor m (shl1 c)).testBit i = (m.testBit i || decide (c = i)) := by
  rw [testBit_lor, testBit_shl1]; simp [hc]
theorem z_maskR_ok : ∀ (zs : List Nat) (m : Nat), (maskR m zs).2 = 0 ↔ (∀ c ∈ zs, c < 52) ∧ (∀ c ∈ zs, m.testBit c = false) ∧ zs.Nodup
  | [], m => by simp [maskR]
  | c :: cs, m => by
    unfold maskR
    by_cases h1 : c < 52
    · rw [if_pos h1]
      cases h2 : m.testBit c
      · simp only [Bool.false_eq_true, if_false]
        rw [z_maskR_ok cs]
        have e : ∀ x, (lor m (shl1 c)).testBit x = false ↔ (m.testBit x = false ∧ c ≠ x) := by
          intro x; rw [z_testBit_lor_shl1 _ _ _ (by omega)]; simp
        simp only [e, List.mem_cons, List.nodup_cons, forall_eq_or_imp, h1, h2, true_and]
        constructor
        · rintro ⟨h3, h4, h5⟩
          exact ⟨h3, fun x hx => (h4 x hx).1, fun hx => (h4 c hx).2 rfl, h5⟩
        · rintro ⟨h3, h4, h5, h6⟩
          exact ⟨h3, fun x hx => ⟨h4 x hx, fun hc => h5 (hc ▸ hx)⟩, h6⟩
      · simp [h2]
    · rw [if_neg h1]; simp [h1]
theorem z_maskR_bit : ∀ (zs : List Nat) (m : Nat), (maskR m zs).2 = 0 → ∀ i, (maskR m zs).1.testBit i = (m.testBit i || decide (i ∈ zs))
  | [], m, _, i => by simp [maskR]
  | c :: cs, m, h, i => by
    unfold maskR at h ⊢
    by_cases h1 : c < 52
    · rw [if_pos h1] at h ⊢
      cases h2 : m.testBit c
      · simp only [h2, Bool.false_eq_true, if_false] at h ⊢
        rw [z_maskR_bit cs _ h i, z_testBit_lor_shl1 _ _ _ (by omega)]
        by_cases hc : c = i
        · simp [hc]
        · have : ¬ i = c := fun e => hc e.symm
          simp [hc, this]
      · simp [h2] at h
    · rw [if_neg h1] at h; simp at h

theorem z_rightB_iff (zs : List Nat) : rightB zs = true ↔ 1 ≤ zs.length ∧ zs.length ≤ 4 ∧ (∀ c ∈ zs, c < 52) ∧ zs.Nodup := by
  have := z_maskR_ok zs 0
  simp only [Nat.zero_testBit] at this
  simp only [rightB, Bool.and_eq_true, decide_eq_true_eq, beq_iff_eq]
  rw [this]
  simp
  constructor
  · rintro ⟨⟨a, b⟩, c, d⟩; exact ⟨a, b, c, d⟩
  · rintro ⟨a, b, c, d⟩; exact ⟨⟨a, b⟩, c, d⟩

/-- the first k are cards, and all different -/
def z_OkTo (zs : List Nat) (k : Nat) : Prop := ∀ i, i < k → zs.getD i 0 < 52 ∧ ∀ j, j < i → zs.getD j 0 ≠ zs.getD i 0
/-- the first j are not the i-th -/
def z_NeTo (zs : List Nat) (i j : Nat) : Prop := ∀ x, x < j → zs.getD x 0 ≠ zs.getD i 0
theorem z_getD_mem {zs : List Nat} {i : Nat} (h : i < zs.length) : zs.getD i 0 ∈ zs := by
  rw [List.getD_eq_getElem?_getD, List.getElem?_eq_getElem h]; exact List.getElem_mem h
theorem z_mem_getD {zs : List Nat} {c : Nat} (h : c ∈ zs) : ∃ i, i < zs.length ∧ zs.getD i 0 = c := by
  obtain ⟨i, hi, rfl⟩ := List.getElem_of_mem h
  exact ⟨i, hi, by rw [List.getD_eq_getElem?_getD, List.getElem?_eq_getElem hi]; rfl⟩
theorem z_getD_get {zs : List Nat} {i : Nat} (h : i < zs.length) : zs.getD i 0 = zs[i] := by
  rw [List.getD_eq_getElem?_getD, List.getElem?_eq_getElem h]; rfl
theorem z_okTo_all {zs : List Nat} : z_OkTo zs zs.length ↔ (∀ c ∈ zs, c < 52) ∧ zs.Nodup := by
  constructor
  · intro h
    refine ⟨fun c hc => ?_, ?_⟩
    · obtain ⟨i, hi, rfl⟩ := z_mem_getD hc; exact (h i hi).1
    · rw [List.nodup_iff_pairwise_ne, List.pairwise_iff_getElem]
      intro i j hi hj hij
      have := (h j hj).2 i hij
      rwa [z_getD_get hi, z_getD_get hj] at this
  · rintro ⟨h1, h2⟩ i hi
    refine ⟨h1 _ (z_getD_mem hi), fun j hj => ?_⟩
    rw [List.nodup_iff_pairwise_ne, List.pairwise_iff_getElem] at h2
    rw [z_getD_get hi, z_getD_get (by omega)]
    exact h2 j i (by omega) hi hj
theorem z_rightB_okTo {zs : List Nat} (h1 : 1 ≤ zs.length) (h4 : zs.length ≤ 4) : rightB zs = true ↔ z_OkTo zs zs.length := by
  rw [z_rightB_iff, z_okTo_all]
  exact ⟨fun h => h.2.2, fun h => ⟨h1, h4, h⟩⟩
theorem z_right_true {zs : List Nat} (h1 : 1 ≤ zs.length) (h4 : zs.length ≤ 4) (h : z_OkTo zs zs.length) : rightB zs = true := (z_rightB_okTo h1 h4).2 h
theorem z_right_false_big {zs : List Nat} {k : Nat} (hk : k < zs.length) (h : ¬ zs.getD k 0 < 52) : rightB zs = false := by
  rw [← Bool.not_eq_true]; intro hr
  exact h (((z_rightB_iff zs).1 hr).2.2.1 _ (z_getD_mem hk))
theorem z_right_false_twice {zs : List Nat} {j k : Nat} (hk : k < zs.length) (hj : j < k) (h : zs.getD j 0 = zs.getD k 0) : rightB zs = false := by
  rw [← Bool.not_eq_true]; intro hr
  have h2 := z_okTo_all.2 ((z_rightB_iff zs).1 hr).2.2
  exact (h2 k hk).2 j hj h
theorem z_right_false_len {zs : List Nat} (h : zs.length = 0 ∨ 4 < zs.length) : rightB zs = false := by
  rw [← Bool.not_eq_true]; intro hr
  have := rightB_length hr; omega

theorem z_best_ge (val : Nat → Int) (zs : List Nat) : ∀ k j, j < k → val (zs.getD j 0) ≤ val (zs.getD (bestTo val zs k) 0)
  | 0, j, h => by omega
  | k + 1, j, h => by
    rw [bestTo]
    rcases Nat.lt_succ_iff_lt_or_eq.1 h with h1 | h1
    · have := z_best_ge val zs k j h1
      split <;> omega
    · subst h1; split <;> omega
theorem z_best_first (val : Nat → Int) (zs : List Nat) : ∀ k j, j < bestTo val zs k → val (zs.getD j 0) < val (zs.getD (bestTo val zs k) 0)
  | 0, j, h => by simp [bestTo] at h
  | k + 1, j, h => by
    rw [bestTo] at h ⊢
    split
    · rename_i h1
      rw [if_pos h1] at h
      have := z_best_ge val zs k j h
      omega
    · rename_i h1
      rw [if_neg h1] at h
      exact z_best_first val zs k j h
/-- whether one of the first x is greater than the i-th -/
def z_beatenTo (val : Nat → Int) (zs : List Nat) (i : Nat) : Nat → Bool
  | 0 => false
  | x + 1 => if val (zs.getD i 0) < val (zs.getD x 0) then true else z_beatenTo val zs i x
theorem z_beatenTo_iff (val : Nat → Int) (zs : List Nat) (i : Nat) : ∀ k, z_beatenTo val zs i k = true ↔ ∃ j, j < k ∧ val (zs.getD i 0) < val (zs.getD j 0)
  | 0 => by simp [z_beatenTo]
  | k + 1 => by
    rw [z_beatenTo]
    split
    · rename_i h; exact ⟨fun _ => ⟨k, by omega, h⟩, fun _ => rfl⟩
    · rename_i h
      rw [z_beatenTo_iff val zs i k]
      constructor
      · rintro ⟨j, hj, h2⟩; exact ⟨j, by omega, h2⟩
      · rintro ⟨j, hj, h2⟩
        rcases Nat.lt_succ_iff_lt_or_eq.1 hj with h3 | h3
        · exact ⟨j, h3, h2⟩
        · subst h3; exact absurd h2 h
/-- all before i are beaten -/
def z_AllBeaten (val : Nat → Int) (zs : List Nat) (n i : Nat) : Prop := ∀ j, j < i → z_beatenTo val zs j n = true
theorem z_best_not_beaten (val : Nat → Int) (zs : List Nat) (n : Nat) : z_beatenTo val zs (bestTo val zs n) n = false := by
  rw [← Bool.not_eq_true, z_beatenTo_iff]
  rintro ⟨j, hj, h⟩
  have := z_best_ge val zs n j hj
  omega
theorem z_best_of_not_beaten {val : Nat → Int} {zs : List Nat} {n i : Nat} (hi : i < n) (ha : z_AllBeaten val zs n i) (hb : z_beatenTo val zs i n = false) : bestTo val zs n = i := by
  have h1 : bestTo val zs n < n := bestTo_lt val zs n (by omega)
  rcases Nat.lt_trichotomy (bestTo val zs n) i with h | h | h
  · have := ha _ h; rw [z_best_not_beaten] at this; cases this
  · exact h
  · have := z_best_first val zs n i h
    have h2 : z_beatenTo val zs i n = true := (z_beatenTo_iff val zs i n).2 ⟨_, h1, this⟩
    rw [hb] at h2; cases h2
theorem z_not_all_beaten {val : Nat → Int} {zs : List Nat} {n : Nat} (hn : 0 < n) (ha : z_AllBeaten val zs n n) : False := by
  have := ha _ (bestTo_lt val zs n hn)
  rw [z_best_not_beaten] at this; cases this
end Go.Proofs.YtginbellakkliaaDoor

/- The reference of chapter 11 in this seat: Right, Strength, Winner, Seat. -/
namespace Go.Proofs.YtginbellakkliaaDoor
open Go.RowKit Go.Sort Go.Shelf

theorem ref_right (a : Option Addr) (len cap : Nat) (zs : List Nat) (w : World) (hz : Byt w a len zs) :
    Calls Tryd.prog 88 #[.slice a len cap] w fun e w' => e = .returned (.bool (rightB zs)) ∧ Below w.heap.size w w' := by
  have hl := hz.length
  by_cases h0 : len = 0
  · subst h0
    rw [z_right_false_len (.inl hl)]
    clear hl
    go_enter Tryd.func88, Tryd.ntmps88
    go_wp2
    go_ret
    exact ⟨rfl, Below.refl _ _⟩
  have h0' : ((len : Int) == 0) = false := by simp; omega
  by_cases h4 : 4 < len
  · rw [z_right_false_len (.inr (by omega))]
    have h4' : decide ((4 : Int) < (len : Int)) = true := by simp; omega
    clear hl
    go_enter Tryd.func88, Tryd.ntmps88
    go_wp2
    go_ret
    exact ⟨rfl, Below.refl _ _⟩
  have h4' : decide ((4 : Int) < (len : Int)) = false := by simp; omega
  have HL := Lib.hid hl
  clear hl
  obtain ⟨b, off, rfl, hb, hcs⟩ := hz.at (by omega)
  have HCS := Lib.hid hcs
  clear hcs
  go_enter Tryd.func88, Tryd.ntmps88
  go_wp2
  go_loopw [3, 4] (fun i _ wr => ∃ k : Nat, k ≤ len ∧ i = .int .i64 k ∧ z_OkTo zs k ∧ Below w.heap.size w wr) (fun i _ _ => len - (intOf i).toNat)
  case atStart => exact ⟨0, Nat.zero_le _, rfl, fun i hi => by omega, Below.refl _ _⟩
  case round =>
    obtain ⟨k, hk, rfl, hok, hB⟩ := hrel
    obtain ⟨wo, rfl⟩ : ∃ wo : World, wo = wr := ⟨_, rfl⟩
    by_cases hlt : k < len
    · have hc : wo.cell? ⟨b, off + k, none⟩ = some (.int .u8 ((zs.getD k 0 : Nat) : Int)) := (hB.cell (p := ⟨b, off + k, none⟩) hb).trans (HCS.out k hlt)
      generalize hg : zs.getD k 0 = c at *
      have HG := Lib.hid hg
      clear hg
      by_cases h52 : 51 < c
      · go_wp2
        rw [z_right_false_big (by rw [HL.out]; exact hlt) (by rw [HG.out]; omega)]
        go_ret
        exact ⟨rfl, hB⟩
      · go_wp2
        go_loopw [4] (fun j wr => ∃ x : Nat, x ≤ k ∧ j = .int .i64 x ∧ z_NeTo zs k x ∧ Below w.heap.size w wr) (fun j _ => k - (intOf j).toNat)
        case atStart => exact ⟨0, Nat.zero_le _, rfl, fun i hi => by omega, hB⟩
        case round =>
          obtain ⟨x, hx, rfl, hne, hB2⟩ := hrel
          by_cases hxk : x < k
          · have hxl : x < len := by omega
            have hc1 : wr.cell? ⟨b, off + k, none⟩ = some (.int .u8 (c : Int)) := (hB2.cell (p := ⟨b, off + k, none⟩) hb).trans (by rw [HCS.out k hlt, HG.out])
            have hc2 : wr.cell? ⟨b, off + x, none⟩ = some (.int .u8 ((zs.getD x 0 : Nat) : Int)) := (hB2.cell (p := ⟨b, off + x, none⟩) hb).trans (HCS.out x hxl)
            generalize hg2 : zs.getD x 0 = d at *
            have HG2 := Lib.hid hg2
            clear hg2
            have hr1 := fun dd os => cell_regrown hc1 dd os
            have hr2 := fun dd os => cell_regrown hc2 dd os
            go_wp2
            refine wp_region_quiet_below (by kernel_rfl) (by kernel_rfl) ?_
            repeat (quiet_step (fail))
            refine wpQuiet_nil ?_
            rintro _ ⟨p, rfl⟩
            have hb3 := below_regrown wr p.d p.os
            generalize grow (redrawn wr p.d) p.os = w1 at *
            by_cases hcd : d = c
            · have hcd' : ((d : Int) == (c : Int)) = true := by simp; omega
              have HCD := Lib.hid hcd
              clear hcd
              go_wp2
              rw [z_right_false_twice (by rw [HL.out]; exact hlt) hxk (by rw [HG.out, HG2.out, HCD.out])]
              go_ret
              exact ⟨rfl, hB2.trans (hb3.mono hB2.size)⟩
            · have hcd' : ((d : Int) == (c : Int)) = false := by simp; omega
              go_wp2
              go_roundw
              case rel =>
                refine ⟨x + 1, by omega, by go_num, fun y hy => ?_, hB2.trans (hb3.mono hB2.size)⟩
                rcases Nat.lt_succ_iff_lt_or_eq.1 hy with h | h
                · exact hne y h
                · subst h; rw [HG.out, HG2.out]; exact hcd
              case measure => simp [intOf]; omega
          · have hxe : Hid (x = k) := Lib.hid (by omega)
            go_wp2
            go_roundw
            case rel =>
              refine ⟨k + 1, by omega, by go_num, fun y hy => ?_, hB2⟩
              rcases Nat.lt_succ_iff_lt_or_eq.1 hy with h | h
              · exact hok y h
              · subst h
                refine ⟨by rw [HG.out]; omega, fun z hz => hne z (by rw [hxe.out]; exact hz)⟩
            case measure => simp [intOf]; omega
    · have hk' : k = len := by omega
      have HK := Lib.hid hk'
      clear hk'
      go_wp2
      rw [z_right_true (by rw [HL.out]; omega) (by rw [HL.out]; omega) (by rw [HL.out, ← HK.out]; exact hok)]
      go_ret
      exact ⟨rfl, hB⟩

theorem ref_strength (t l c : Nat) (w : World) :
    Calls Tryd.prog 95 #[.int .u8 (t : Int), .int .u8 (l : Int), .int .u8 (c : Int)] w fun e w' => e = .returned (.int .i64 ((strengthV t l c : Nat) : Int)) ∧ w = w' := by
  unfold strengthV
  by_cases h1 : 4 < t
  · rw [if_neg (by omega)]
    have h1' : decide ((4 : Int) < (t : Int)) = true := by simp; omega
    go_enter Tryd.func95, Tryd.ntmps95
    go_wp2
    go_ret
    exact ⟨rfl, rfl⟩
  have h1' : decide ((4 : Int) < (t : Int)) = false := by simp; omega
  by_cases h2 : 3 < l
  · rw [if_neg (by omega)]
    have h2' : decide ((3 : Int) < (l : Int)) = true := by simp; omega
    go_enter Tryd.func95, Tryd.ntmps95
    go_wp2
    go_ret
    exact ⟨rfl, rfl⟩
  have h2' : decide ((3 : Int) < (l : Int)) = false := by simp; omega
  by_cases h3 : c < 52
  · have h3' : decide ((51 : Int) < (c : Int)) = false := by simp; omega
    rw [if_pos (by omega)]
    unfold strength suit rank
    rw [if_pos h3, if_pos h3]
    by_cases h4 : c / 13 = t
    · have h4' : ((c : Int) / 13 == (t : Int)) = true := by simp; omega
      rw [if_pos h4]
      have HE : Hid (((14 + c % 13 : Nat) : Int) = 14 + (c : Int) % 13) := Lib.hid (by omega)
      go_enter Tryd.func95, Tryd.ntmps95
      go_wp2
      go_ret
      exact ⟨by rw [HE.out]; rfl, rfl⟩
    have h4' : ((c : Int) / 13 == (t : Int)) = false := by simp; omega
    rw [if_neg h4]
    by_cases h5 : c / 13 = l
    · have h5' : ((c : Int) / 13 == (l : Int)) = true := by simp; omega
      rw [if_pos h5]
      have HE : Hid (((1 + c % 13 : Nat) : Int) = 1 + (c : Int) % 13) := Lib.hid (by omega)
      go_enter Tryd.func95, Tryd.ntmps95
      go_wp2
      go_ret
      exact ⟨by rw [HE.out]; rfl, rfl⟩
    have h5' : ((c : Int) / 13 == (l : Int)) = false := by simp; omega
    rw [if_neg h5]
    go_enter Tryd.func95, Tryd.ntmps95
    go_wp2
    go_ret
    exact ⟨rfl, rfl⟩
  · have h3' : decide ((51 : Int) < (c : Int)) = true := by simp; omega
    rw [if_neg (by omega)]
    go_enter Tryd.func95, Tryd.ntmps95
    go_wp2
    go_ret
    exact ⟨rfl, rfl⟩
theorem ref_strength_led (t c0 c : Nat) (w : World) (ht : t ≤ 4) (h0 : c0 < 52) (hc : c < 52) :
    Calls Tryd.prog 95 #[.int .u8 (t : Int), .int .u8 ((c0 : Int) / 13), .int .u8 (c : Int)] w fun e w' => e = .returned (.int .i64 ((strength t (suit c0) c : Nat) : Int)) ∧ w = w' := by
  have h := ref_strength t (suit c0) c w
  have e : ((suit c0 : Nat) : Int) = (c0 : Int) / 13 := by unfold suit; rw [if_pos h0]; omega
  have hs : suit c0 ≤ 3 := by unfold suit; rw [if_pos h0]; omega
  rw [e] at h
  unfold strengthV at h
  rwa [if_pos ⟨ht, hs, hc⟩] at h

theorem z_right_lt {zs : List Nat} (h : rightB zs = true) {i : Nat} (hi : i < zs.length) : zs.getD i 0 < 52 := ((z_rightB_iff zs).1 h).2.2.1 _ (z_getD_mem hi)

theorem ref_Winner (t : Nat) (a : Option Addr) (len cap : Nat) (zs : List Nat) (w : World) (hz : Byt w a len zs) :
    Calls Tryd.prog 94 #[.int .u8 (t : Int), .slice a len cap] w fun e w' => e = .returned (.tuple #[.int .i64 ((winnerV t zs).1 : Int), .int .i64 ((winnerV t zs).2 : Int)]) ∧ Below w.heap.size w w' := by
  unfold winnerV
  by_cases h1 : 4 < t
  · rw [if_pos h1]
    go_enter Tryd.func94, Tryd.ntmps94
    go_wp2_with fail
    go_ret2
    exact ⟨rfl, Below.refl _ _⟩
  rw [if_neg h1]
  cases h2 : rightB zs
  · go_enter Tryd.func94, Tryd.ntmps94
    go_wp2_with (go_at_call 88; refine (ref_right _ _ _ zs _ hz).mono ?_; rw [h2]; rintro e w' ⟨rfl, hb'⟩)
    go_ret2
    exact ⟨rfl, hb'⟩
  · have hlen := hz.length
    have hr := rightB_length h2
    rw [hlen] at hr
    simp only [if_true]
    rw [hlen]
    have h52 : ∀ i, i < len → zs.getD i 0 < 52 := fun i hi => z_right_lt h2 (by rw [hlen]; exact hi)
    have H52 := Lib.hid h52
    clear hlen h52
    obtain ⟨b, off, rfl, hb, hcs⟩ := hz.at (by omega)
    have HCS := Lib.hid hcs
    clear hcs
    have hpos : (0 : Int) < (len : Int) := by omega
    have hposN : 0 < len := by omega
    have HC0 : Hid (w.cell? ⟨b, off, none⟩ = some (.int .u8 ((zs.getD 0 0 : Nat) : Int))) := Lib.hid (by have := HCS.out 0 (by omega); rwa [Nat.add_zero] at this)
    have h0 := H52.out 0 (by omega)
    generalize zs.getD 0 0 = c0 at *
    obtain ⟨val, hval⟩ : ∃ v : Nat → Int, v = fun c => (strength t (suit c0) c : Int) := ⟨_, rfl⟩
    rw [← hval]
    have HV := Lib.hid hval
    clear hval
    go_enter Tryd.func94, Tryd.ntmps94
    go_wp2_with (go_at_call 88; refine (ref_right _ _ _ zs _ hz).mono ?_; rw [h2]; rintro e w0 ⟨rfl, hb0⟩)
    go_loopw [6, 7, 8] (fun i _ _ wr => ∃ k : Nat, k ≤ len ∧ i = .int .i64 k ∧ z_AllBeaten val zs len k ∧ Below w.heap.size w wr) (fun i _ _ _ => len - (intOf i).toNat)
    case atStart => exact ⟨0, Nat.zero_le _, rfl, fun i hi => by omega, hb0⟩
    case round =>
      obtain ⟨k, hk, rfl, hall, hB⟩ := hrel
      obtain ⟨wo, rfl⟩ : ∃ wo : World, wo = wr := ⟨_, rfl⟩
      by_cases hlt : k < len
      · go_wp2
        go_loopw [7, 8] (fun bt j wr => ∃ x : Nat, x ≤ len ∧ j = .int .i64 x ∧ bt = .bool (z_beatenTo val zs k x) ∧ Below w.heap.size w wr) (fun _ j _ => len - (intOf j).toNat)
        case atStart => exact ⟨0, Nat.zero_le _, rfl, rfl, hB⟩
        case round =>
          obtain ⟨x, hx, rfl, rfl, hB2⟩ := hrel
          by_cases hxk : x < len
          · have hc0 : wr.cell? ⟨b, off, none⟩ = some (.int .u8 (c0 : Int)) := (hB2.cell (p := ⟨b, off, none⟩) hb).trans HC0.out
            have hc1 : wr.cell? ⟨b, off + k, none⟩ = some (.int .u8 ((zs.getD k 0 : Nat) : Int)) := (hB2.cell (p := ⟨b, off + k, none⟩) hb).trans (HCS.out k hlt)
            have hc2 : wr.cell? ⟨b, off + x, none⟩ = some (.int .u8 ((zs.getD x 0 : Nat) : Int)) := (hB2.cell (p := ⟨b, off + x, none⟩) hb).trans (HCS.out x hxk)
            have hk52 := H52.out k hlt
            have hx52 := H52.out x hxk
            have HS : Hid (z_beatenTo val zs k (x + 1) = if val (zs.getD k 0) < val (zs.getD x 0) then true else z_beatenTo val zs k x) := Lib.hid rfl
            generalize z_beatenTo val zs k x = bt at *
            generalize zs.getD k 0 = c at *
            generalize zs.getD x 0 = d at *
            have hr0 := fun dd os => cell_regrown hc0 dd os
            have hr1 := fun dd os => cell_regrown hc1 dd os
            have hr2 := fun dd os => cell_regrown hc2 dd os
            have hq : IntKind.u8.wrap ((c0 : Int) / 13) = (c0 : Int) / 13 := IntWalk.u8_in _ (by omega)
            go_wp2
            refine wp_region_quiet_below (by kernel_rfl) (by kernel_rfl) ?_
            repeat (quiet_step ((exact Calls.regrown_of ((ref_strength_led _ _ _ _ (by omega) (by omega) (by omega)).mono fun _ _ ⟨he, hw⟩ => ⟨he, hw ▸ Below.refl _ _⟩))))
            refine wpQuiet_nil ?_
            rintro _ ⟨p, rfl⟩
            have hb3 := below_regrown wr p.d p.os
            generalize grow (redrawn wr p.d) p.os = w1 at *
            clear hq
            have HV2 : Hid (val c = (strength t (suit c0) c : Int)) := Lib.hid (by rw [HV.out])
            have HV3 : Hid (val d = (strength t (suit c0) d : Int)) := Lib.hid (by rw [HV.out])
            generalize strength t (suit c0) c = sc at *
            generalize strength t (suit c0) d = sd at *
            by_cases hcmp : sc < sd
            all_goals
              go_wp2
              go_roundw
              case rel => exact ⟨x + 1, by omega, by go_num, by rw [HS.out, HV2.out, HV3.out]; simp [hcmp], hB2.trans (hb3.mono hB2.size)⟩
              case measure => simp [intOf]; omega
          · have HX : Hid (x = len) := Lib.hid (by omega)
            generalize hbt : z_beatenTo val zs k x = bt
            have HBT := Lib.hid hbt
            clear hbt
            cases bt
            · go_wp2
              rw [z_best_of_not_beaten hlt hall (by rw [← HX.out]; exact HBT.out)]
              go_ret2
              exact ⟨rfl, hB2⟩
            · go_wp2
              go_roundw
              case rel =>
                refine ⟨k + 1, by omega, by go_num, fun y hy => ?_, hB2⟩
                rcases Nat.lt_succ_iff_lt_or_eq.1 hy with h | h
                · exact hall y h
                · subst h; rw [← HX.out]; exact HBT.out
              case measure => simp [intOf]; omega
      · have hk' : k = len := by omega
        subst hk'
        exact (z_not_all_beaten (by omega) hall).elim

theorem ref_Seat (t l : Nat) (a : Option Addr) (len cap : Nat) (zs : List Nat) (w : World) (hz : Byt w a len zs) :
    Calls Tryd.prog 92 #[.int .u8 (t : Int), .int .u8 (l : Int), .slice a len cap] w fun e w' => e = .returned (.tuple #[.int .u8 ((seatV t l zs).1 : Int), .int .i64 ((seatV t l zs).2 : Int)]) ∧ Below w.heap.size w w' := by
  unfold seatV
  have hw := winnerV_lt t zs
  generalize hx : winnerV t zs = x at *
  have HX := Lib.hid hx
  clear hx
  by_cases h1 : 3 < l
  · rw [if_pos h1]
    go_enter Tryd.func92, Tryd.ntmps92
    go_wp2_with (go_at_call 94; refine (ref_Winner t _ _ _ zs _ hz).mono ?_; rw [HX.out]; rintro e w' ⟨rfl, hb'⟩)
    go_ret2
    exact ⟨rfl, hb'⟩
  rw [if_neg h1]
  obtain ⟨x, y⟩ := x
  dsimp only at hw ⊢
  by_cases h2 : y = 0
  · subst h2
    rw [if_pos rfl]
    go_enter Tryd.func92, Tryd.ntmps92
    go_wp2_with (go_at_call 94; refine (ref_Winner t _ _ _ zs _ hz).mono ?_; rw [HX.out]; rintro e w' ⟨rfl, hb'⟩)
    go_ret2
    refine ⟨?_, hb'⟩
    simp
  · rw [if_neg h2]
    have h2' : ((y : Int) != 0) = true := by rw [bne_iff_ne]; omega
    go_enter Tryd.func92, Tryd.ntmps92
    go_wp2_with (go_at_call 94; refine (ref_Winner t _ _ _ zs _ hz).mono ?_; rw [HX.out]; rintro e w' ⟨rfl, hb'⟩)
    go_ret2
    exact ⟨rfl, hb'⟩
end Go.Proofs.YtginbellakkliaaDoor

/- The reference of chapter 11 in this seat: Has, among, Playable. -/
namespace Go.Proofs.YtginbellakkliaaDoor
open Go.RowKit Go.Sort Go.Shelf
theorem z_take_snoc (zs : List Nat) (k : Nat) (h : k < zs.length) : zs.take (k + 1) = zs.take k ++ [zs.getD k 0] := by
  rw [List.take_succ_eq_append_getElem h, List.getD_eq_getElem?_getD, List.getElem?_eq_getElem h]; rfl

theorem z_shr_mod (m c : Nat) : (((shr m c : Nat) : Int) % 2 == 1) = m.testBit c := by
  have e : ((shr m c : Nat) : Int) % 2 = ((bitAt m c : Nat) : Int) := by unfold shr bitAt; omega
  rw [e]; exact bitAt_one m c
theorem ref_Has (m c : Nat) (w : World) (hm : W64 m) :
    Calls Tryd.prog 78 #[.int .u64 (m : Int), .int .u8 (c : Int)] w fun e w' => e = .returned (.bool (m.testBit c)) ∧ w = w' := by
  rw [← z_shr_mod]
  have h0 : 0 ≤ ((shr m c : Nat) : Int) := by omega
  go_enter Tryd.func78, Tryd.ntmps78
  go_wp2
  go_ret
  exact ⟨rfl, rfl⟩

theorem ref_among (a : Option Addr) (len cap c : Nat) (zs : List Nat) (w : World) (hz : Byt w a len zs) :
    Calls Tryd.prog 89 #[.slice a len cap, .int .u8 (c : Int)] w fun e w' => e = .returned (.bool (zs.contains c)) ∧ w = w' := by
  have HL := Lib.hid hz.length
  have hsm := hz.small
  generalize hbb : zs.contains c = bb
  have HBB := Lib.hid hbb
  clear hbb
  go_enter Tryd.func89, Tryd.ntmps89
  go_wp2
  go_loop [5] (fun i => ∃ (k : Nat), k ≤ len ∧ i = .int .i64 k ∧ c ∉ zs.take k) (fun i => len - (intOf i).toNat)
  case atStart => exact ⟨0, Nat.zero_le _, rfl, by simp⟩
  case round =>
    obtain ⟨k, hk, rfl, hn⟩ := hrel
    have HN := Lib.hid hn
    clear hn
    by_cases hlt : k < len
    · obtain ⟨b, off, rfl, hb, hcs⟩ := hz.at (by omega)
      have hc := hcs k hlt
      have ht := z_take_snoc zs k (by rw [HL.out]; exact hlt)
      have hmem := z_getD_mem (zs := zs) (i := k) (by rw [HL.out]; exact hlt)
      clear hcs
      generalize zs.getD k 0 = x at *
      have HT := Lib.hid ht
      have HM := Lib.hid hmem
      clear ht hmem
      by_cases hx : x = c
      · have hx' : ((x : Int) == (c : Int)) = true := by simp; omega
        have HX := Lib.hid hx
        clear hx
        have e : zs.contains c = true := List.contains_iff_mem.2 (by rw [← HX.out]; exact HM.out)
        have HE := Lib.hid e
        clear e
        go_wp2
        go_ret
        exact ⟨by rw [← HBB.out, HE.out]; rfl, rfl⟩
      · have hx' : ((x : Int) == (c : Int)) = false := by simp; omega
        go_wp2
        go_round
        case rel => exact ⟨k + 1, by omega, by go_num, by rw [HT.out]; have := HN.out; simp [this, Ne.symm hx]⟩
        case measure => simp [intOf]; omega
    · have e : zs.contains c = false := by
        have := HN.out
        rw [List.take_of_length_le (by rw [HL.out]; omega)] at this
        simp [this]
      have HE := Lib.hid e
      clear e
      go_wp2
      go_ret
      exact ⟨by rw [← HBB.out, HE.out]; rfl, rfl⟩

theorem z_mod_succ (x k : Nat) : x % 2 ^ (k + 1) = x % 2 ^ k + (if x.testBit k then 2 ^ k else 0) := by
  rw [Nat.mod_pow_succ, Nat.testBit_eq_decide_div_mod_eq]
  have := Nat.mod_two_eq_zero_or_one (x / 2 ^ k)
  rcases this with h | h <;> simp [h]
theorem z_pow_le_52 {k : Nat} (h : k ≤ 52) : 2 ^ k ≤ 4503599627370496 := Nat.pow_le_pow_right (n := 2) (by decide) h
theorem z_mod_lt_52 (x k : Nat) (h : k ≤ 52) : x % 2 ^ k < 4503599627370496 := Nat.lt_of_lt_of_le (Nat.mod_lt _ (Nat.two_pow_pos k)) (z_pow_le_52 h)
theorem z_shl1_pow {k : Nat} (h : k < 64) : shl1 k = 2 ^ k := by unfold shl1; rw [if_pos h]
theorem z_bit_lt {m i : Nat} {n : Nat} (hm : m < 2 ^ n) (h : m.testBit i = true) : i < n := by
  rcases Nat.lt_or_ge i n with h1 | h1
  · exact h1
  · rw [Nat.testBit_lt_two_pow (Nat.lt_of_lt_of_le hm (Nat.pow_le_pow_right (by decide) h1))] at h; cases h
theorem z_lt_of_bits {m : Nat} (n : Nat) (h : ∀ i, m.testBit i = true → i < n) : m < 2 ^ n := by
  apply Nat.lt_pow_two_of_testBit
  intro i hi
  cases hb : m.testBit i
  · rfl
  · have := h i hb; omega

theorem z_fold_bits (p : Nat → Bool) (step : Nat → Fin 64 → Nat) (hstep : ∀ f c, step f c = if p c.val then lor f (shl1 c.val) else f) (i : Nat) : ∀ (l : List (Fin 64)) (f : Nat),
    (l.foldl step f).testBit i = (f.testBit i || l.any fun c => p c.val && decide (c.val = i))
  | [], f => by simp
  | c :: l, f => by
    rw [List.foldl_cons, z_fold_bits p step hstep i l, hstep, List.any_cons]
    cases hp : p c.val
    · simp
    · simp only [if_true, Bool.true_and]
      rw [z_testBit_lor_shl1 _ _ _ c.isLt, Bool.or_assoc]
theorem z_any_bits (p : Nat → Bool) (m i : Nat) (hm : W64 m) : ((bitsList m).any fun c => p c.val && decide (c.val = i)) = (m.testBit i && p i) := by
  rw [Bool.eq_iff_iff]
  simp only [List.any_eq_true, Bool.and_eq_true, decide_eq_true_eq, bitsList, List.mem_filter, List.mem_finRange, true_and]
  constructor
  · rintro ⟨c, h1, h2, rfl⟩; exact ⟨h1, h2⟩
  · rintro ⟨h1, h2⟩
    exact ⟨⟨i, z_bit_lt hm h1⟩, h1, h2, rfl⟩
theorem z_follow_bit (s m i : Nat) (hm : W64 m) : (follow s (bitsList m)).testBit i = (m.testBit i && decide (suit i = s)) := by
  unfold follow
  rw [z_fold_bits (fun c => decide (suit c = s)) (folStep s) (fun f c => by simp [folStep]) i, z_any_bits (fun c => decide (suit c = s)) _ _ hm]
  simp
theorem z_rest_bit (hand : Nat) (zs : List Nat) (h : (maskR 0 zs).2 = 0) (i : Nat) : (restV hand zs).testBit i = (hand.testBit i && !zs.contains i) := by
  unfold restV
  rw [testBit_landn, z_maskR_bit zs 0 h]
  simp
theorem z_rest_lt (hand : Nat) (zs : List Nat) (h : hand < 4503599627370496) : restV hand zs < 2 ^ 52 := by
  apply z_lt_of_bits
  intro i hi
  unfold restV at hi
  rw [testBit_landn, Bool.and_eq_true] at hi
  exact z_bit_lt (n := 52) h hi.1
theorem z_sub_lt {m n : Nat} (hm : m < 2 ^ 52) (h : ∀ i, n.testBit i = true → m.testBit i = true) : n < 2 ^ 52 := z_lt_of_bits 52 fun i hi => z_bit_lt hm (h i hi)
theorem z_follow_lt (s m : Nat) (hm : m < 2 ^ 52) : follow s (bitsList m) < 2 ^ 52 := by
  refine z_sub_lt hm fun i hi => ?_
  rw [z_follow_bit s m i (Nat.lt_trans hm (by decide)), Bool.and_eq_true] at hi
  exact hi.1
theorem z_w64_of_52 {m : Nat} (h : m < 2 ^ 52) : W64 m := Nat.lt_trans h (by decide)
theorem z_right_mask {zs : List Nat} (h : rightB zs = true) : (maskR 0 zs).2 = 0 := by
  simp only [rightB, Bool.and_eq_true, beq_iff_eq] at h; exact h.2
theorem z_suit_div {c : Nat} (h : c < 52) : suit c = c / 13 := by unfold suit; rw [if_pos h]

set_option maxRecDepth 100000 in
theorem ref_Playable (hand : Nat) (a : Option Addr) (len cap : Nat) (zs : List Nat) (w : World) (hz : Byt w a len zs) (hh : W64 hand) :
    Calls Tryd.prog 76 #[.int .u64 (hand : Int), .slice a len cap] w fun e w' => e = .returned (.tuple #[.int .u64 ((playableV hand zs).1 : Int), .int .i64 ((playableV hand zs).2 : Int)]) ∧ Below w.heap.size w w' := by
  unfold playableV
  have hl := hz.length
  rw [hl]
  by_cases h1 : 4503599627370496 ≤ hand
  · rw [if_pos h1]
    have h1' : decide ((4503599627370496 : Int) ≤ (hand : Int)) = true := by simp; omega
    clear hl h1 hh
    go_enter Tryd.func76, Tryd.ntmps76
    go_wp2_with fail
    go_ret2
    exact ⟨rfl, Below.refl _ _⟩
  rw [if_neg h1]
  have h1' : decide ((4503599627370496 : Int) ≤ (hand : Int)) = false := by simp; omega
  have H1 := Lib.hid h1
  clear h1
  by_cases h2 : len = 0
  · subst h2
    rw [if_pos rfl]
    have hzs : zs = [] := List.eq_nil_of_length_eq_zero hl
    subst hzs
    clear hl
    have HE : Hid (hand % 2 ^ 52 = hand) := Lib.hid (Nat.mod_eq_of_lt (Nat.lt_of_not_le H1.out))
    go_enter Tryd.func76, Tryd.ntmps76
    go_wp2_with fail
    go_loop [6, 7, 8] (fun al fo c => ∃ k : Nat, k ≤ 52 ∧ c = .int .u8 (k : Int) ∧ al = .int .u64 ((hand % 2 ^ k : Nat) : Int) ∧ fo = .int .u64 0) (fun _ _ c => 52 - (intOf c).toNat)
    case atStart => exact ⟨0, by omega, rfl, by simp [Nat.mod_one], rfl⟩
    case round =>
      obtain ⟨k, hk, rfl, rfl, rfl⟩ := hrel
      by_cases hlt : k < 52
      · have hm := z_mod_lt_52 hand k hk
        have hm2 := z_pow_le_52 hk
        rw [← z_shl1_pow (show k < 64 by omega)] at hm2
        have HS := Lib.hid (z_mod_succ hand k)
        have HP := Lib.hid (z_shl1_pow (show k < 64 by omega))
        generalize hand % 2 ^ k = x at *
        cases hb : hand.testBit k
        · go_wp2_with (first | (go_at_call 78; refine (ref_Has _ _ _ hh).mono ?_; rw [hb]; rintro e w' ⟨rfl, rfl⟩) | (go_at_call 89; refine (ref_among _ _ _ _ [] _ hz).mono ?_; rintro e w' ⟨rfl, rfl⟩))
          go_round
          case rel => exact ⟨k + 1, by omega, by go_num, by rw [HS.out, hb]; simp, rfl⟩
          case measure => simp [intOf]; omega
        · go_wp2_with (first | (go_at_call 78; refine (ref_Has _ _ _ hh).mono ?_; rw [hb]; rintro e w' ⟨rfl, rfl⟩) | (go_at_call 89; refine (ref_among _ _ _ _ [] _ hz).mono ?_; rintro e w' ⟨rfl, rfl⟩))
          go_round
          case rel => exact ⟨k + 1, by omega, by go_num, by rw [HS.out, hb, HP.out]; simp, rfl⟩
          case measure => simp [intOf]; omega
      · have hk' : k = 52 := by omega
        subst hk'
        rw [HE.out]
        go_wp2
        go_ret2
        exact ⟨rfl, Below.refl _ _⟩
  rw [if_neg h2]
  have h2' : decide ((0 : Int) < (len : Int)) = true := by simp; omega
  have hpos : 0 < len := by omega
  have hposI : (0 : Int) < (len : Int) := by omega
  cases h3 : rightB zs
  · have hl' := Lib.hid hl
    clear hl
    go_enter Tryd.func76, Tryd.ntmps76
    go_wp2_with (go_at_call 88; refine (ref_right _ _ _ zs _ hz).mono ?_; rw [h3]; rintro e w' ⟨rfl, hb'⟩)
    go_ret2
    exact ⟨rfl, hb'⟩
  simp only [if_true]
  by_cases h4 : len = 4
  · subst h4
    rw [if_pos rfl]
    have hl' := Lib.hid hl
    clear hl
    go_enter Tryd.func76, Tryd.ntmps76
    go_wp2_with (go_at_call 88; refine (ref_right _ _ _ zs _ hz).mono ?_; rw [h3]; rintro e w' ⟨rfl, hb'⟩)
    go_ret2
    exact ⟨rfl, hb'⟩
  rw [if_neg h4]
  have h4' : ((len : Int) == 4) = false := by simp; omega
  have hrb := z_rest_bit hand zs (z_right_mask h3)
  have hrl := z_rest_lt hand zs (Nat.lt_of_not_le H1.out)
  have hc0 := z_right_lt h3 (i := 0) (by omega)
  have hfb := fun i => z_follow_bit (suit (zs.getD 0 0)) (restV hand zs) i (z_w64_of_52 hrl)
  have hfl := z_follow_lt (suit (zs.getD 0 0)) (restV hand zs) hrl
  have HPL : Hid (playLate (suit (zs.getD 0 0)) (restV hand zs) = if follow (suit (zs.getD 0 0)) (bitsList (restV hand zs)) ≠ 0 then follow (suit (zs.getD 0 0)) (bitsList (restV hand zs)) else restV hand zs) := Lib.hid rfl
  obtain ⟨b, off, rfl, hb, hcs⟩ := hz.at hpos
  have hcell := hcs 0 hpos
  clear hcs
  rw [Nat.add_zero] at hcell
  have hsd := z_suit_div hc0
  generalize hpv : playLate (suit (zs.getD 0 0)) (restV hand zs) = pv at *
  clear hpv
  generalize follow (suit (zs.getD 0 0)) (bitsList (restV hand zs)) = F at *
  generalize restV hand zs = R at *
  generalize suit (zs.getD 0 0) = s at *
  generalize zs.getD 0 0 = c0 at *
  have HRB := Lib.hid hrb
  have HFB := Lib.hid hfb
  have HER : Hid (R % 2 ^ 52 = R) := Lib.hid (Nat.mod_eq_of_lt hrl)
  have HEF : Hid (F % 2 ^ 52 = F) := Lib.hid (Nat.mod_eq_of_lt hfl)
  have HSD := Lib.hid hsd
  have HL := Lib.hid hl
  clear hrb hfb hrl hfl hsd hl
  go_enter Tryd.func76, Tryd.ntmps76
  go_wp2_with (go_at_call 88; refine (ref_right _ _ _ zs _ hz).mono ?_; rw [h3]; rintro e w1 ⟨rfl, hb1⟩)
  have hcell1 : w1.cell? ⟨b, off, none⟩ = some (.int .u8 (c0 : Int)) := (hb1.cell (p := ⟨b, off, none⟩) hb).trans hcell
  have hz1 := hz.below (Nat.le_refl _) hb1
  clear hcell
  go_loop [6, 7, 8] (fun al fo c => ∃ k : Nat, k ≤ 52 ∧ c = .int .u8 (k : Int) ∧ al = .int .u64 ((R % 2 ^ k : Nat) : Int) ∧ fo = .int .u64 ((F % 2 ^ k : Nat) : Int)) (fun _ _ c => 52 - (intOf c).toNat)
  case atStart => exact ⟨0, by omega, rfl, by simp [Nat.mod_one], by simp [Nat.mod_one]⟩
  case round =>
    obtain ⟨k, hk, rfl, rfl, rfl⟩ := hrel
    by_cases hlt : k < 52
    · have hm := z_mod_lt_52 R k hk
      have hm1 := z_mod_lt_52 F k hk
      have hm2 := z_pow_le_52 hk
      rw [← z_shl1_pow (show k < 64 by omega)] at hm2
      have HS := Lib.hid (z_mod_succ R k)
      have HS1 := Lib.hid (z_mod_succ F k)
      have HP := Lib.hid (z_shl1_pow (show k < 64 by omega))
      have HRk := Lib.hid (HRB.out k)
      have HFk := Lib.hid (HFB.out k)
      generalize R % 2 ^ k = x at *
      generalize F % 2 ^ k = y at *
      cases hbit : hand.testBit k
      · go_wp2_with (first | (go_at_call 78; refine (ref_Has _ _ _ hh).mono ?_; rw [hbit]; rintro e w' ⟨rfl, rfl⟩))
        go_round
        case rel =>
          have e1 : R.testBit k = false := by rw [HRk.out, hbit]; rfl
          exact ⟨k + 1, by omega, by go_num, by rw [HS.out, e1]; simp, by rw [HS1.out, HFk.out, e1]; simp⟩
        case measure => simp [intOf]; omega
      · cases hco : zs.contains k
        · have e1 : R.testBit k = true := by rw [HRk.out, hbit, hco]; rfl
          have HE1 := Lib.hid e1
          have HCO := Lib.hid hco
          clear e1 hco
          by_cases hsu : k / 13 = c0 / 13
          · have hsu' : ((k : Int) / 13 == (c0 : Int) / 13) = true := by simp; omega
            have e2 : suit k = s := by rw [z_suit_div hlt, HSD.out]; exact hsu
            have HE2 := Lib.hid e2
            clear e2 hsu
            go_wp2_with (first | (go_at_call 78; refine (ref_Has _ _ _ hh).mono ?_; rw [hbit]; rintro e w' ⟨rfl, rfl⟩) | (go_at_call 89; refine (ref_among _ _ _ _ zs _ hz1).mono ?_; rw [HCO.out]; rintro e w' ⟨rfl, rfl⟩))
            go_round
            case rel => exact ⟨k + 1, by omega, by go_num, by rw [HS.out, HE1.out, HP.out]; simp, by rw [HS1.out, HFk.out, HE1.out, HE2.out, HP.out]; simp⟩
            case measure => simp [intOf]; omega
          · have hsu' : ((k : Int) / 13 == (c0 : Int) / 13) = false := by simp; omega
            have e2 : ¬ suit k = s := by rw [z_suit_div hlt, HSD.out]; exact hsu
            have HE2 := Lib.hid e2
            clear e2 hsu
            go_wp2_with (first | (go_at_call 78; refine (ref_Has _ _ _ hh).mono ?_; rw [hbit]; rintro e w' ⟨rfl, rfl⟩) | (go_at_call 89; refine (ref_among _ _ _ _ zs _ hz1).mono ?_; rw [HCO.out]; rintro e w' ⟨rfl, rfl⟩))
            go_round
            case rel => exact ⟨k + 1, by omega, by go_num, by rw [HS.out, HE1.out, HP.out]; simp, by rw [HS1.out, HFk.out, HE1.out]; simp [HE2.out]⟩
            case measure => simp [intOf]; omega
        · have e1 : R.testBit k = false := by rw [HRk.out, hbit, hco]; rfl
          have HE1 := Lib.hid e1
          have HCO := Lib.hid hco
          clear e1 hco
          go_wp2_with (first | (go_at_call 78; refine (ref_Has _ _ _ hh).mono ?_; rw [hbit]; rintro e w' ⟨rfl, rfl⟩) | (go_at_call 89; refine (ref_among _ _ _ _ zs _ hz1).mono ?_; rw [HCO.out]; rintro e w' ⟨rfl, rfl⟩))
          go_round
          case rel => exact ⟨k + 1, by omega, by go_num, by rw [HS.out, HE1.out]; simp, by rw [HS1.out, HFk.out, HE1.out]; simp⟩
          case measure => simp [intOf]; omega
    · have hk' : k = 52 := by omega
      subst hk'
      rw [HER.out, HEF.out]
      by_cases hf : 0 < F
      · go_wp2
        go_ret2
        exact ⟨by rw [HPL.out, if_pos (by omega)]; rfl, hb1⟩
      · have HF : Hid (F = 0) := Lib.hid (by omega)
        go_wp2
        go_ret2
        exact ⟨by rw [HPL.out, if_neg (by simp [HF.out])]; rfl, hb1⟩
end Go.Proofs.YtginbellakkliaaDoor
