/- finesselaw40.Made over this seat's program. -/
import Derived.Test.YtikdkhiehfccpaaAgV0
import Derived.Test.YtikdkhiehfccpaaMin
namespace Go.Proofs.Ytikdkhiehfccpaa
open Go.RowKit Go.Sort Go.Shelf Cnt

/-- finesselaw40.Condition -/
structure Cd where
  lo : Nat
  wi : Nat
  f0 : Nat
  f1 : Nat
  f2 : Nat
  f3 : Nat
  t0 : Nat
  t1 : Nat
  t2 : Nat
  t3 : Nat
abbrev Cd.arr (c : Cd) : Array Value := #[.int .u8 (c.lo : Int), .int .u8 (c.wi : Int), .int .u8 (c.f0 : Int), .int .u8 (c.f1 : Int), .int .u8 (c.f2 : Int), .int .u8 (c.f3 : Int), .int .u8 (c.t0 : Int), .int .u8 (c.t1 : Int), .int .u8 (c.t2 : Int), .int .u8 (c.t3 : Int)]
def Cd.cell (c : Cd) : Nat → Nat
  | 0 => c.lo | 1 => c.wi | 2 => c.f0 | 3 => c.f1 | 4 => c.f2 | 5 => c.f3 | 6 => c.t0 | 7 => c.t1 | 8 => c.t2 | _ => c.t3
/-- A slice of conditions that reads as the list cs in the world w. -/
structure Cds (w : World) (a : Option Addr) (len : Nat) (cs : List Cd) : Prop where
  length : cs.length = len
  small : len ≤ 14073748835123
  byte : ∀ (i : Nat) (c : Cd), cs[i]? = some c → ∀ j, c.cell j < 256
  cells : len = 0 ∨ ∃ b off, a = some ⟨b, off, none⟩ ∧ b < w.heap.size ∧ ∀ (i : Nat) (c : Cd), cs[i]? = some c → ∀ j, j < 10 → w.cell? ⟨b, off + i * 10 + j, none⟩ = some (.int .u8 (c.cell j : Int))
theorem Cds.below {w w' : World} {a : Option Addr} {len : Nat} {cs : List Cd} (h : Cds w a len cs) {B : Nat} (hB : w.heap.size ≤ B) (hb : Below B w w') : Cds w' a len cs := by
  refine ⟨h.length, h.small, h.byte, ?_⟩
  rcases h.cells with h | ⟨b, off, ha, hlt, hc⟩
  · exact .inl h
  · exact .inr ⟨b, off, ha, Nat.lt_of_lt_of_le hlt hb.size, fun i r hr j hj => (hb.cell (p := ⟨b, _, none⟩) (Nat.lt_of_lt_of_le hlt hB)).trans (hc i r hr j hj)⟩
theorem Cds.ten {w : World} {a : Option Addr} {len : Nat} {cs : List Cd} (h : Cds w a len cs) {k : Nat} (hk : k < len) :
    ∃ b off c, a = some ⟨b, off, none⟩ ∧ b < w.heap.size ∧ cs[k]? = some c ∧ (∀ j, c.cell j < 256) ∧ ∀ j, j < 10 → w.cell? ⟨b, off + k * 10 + j, none⟩ = some (.int .u8 (c.cell j : Int)) := by
  rcases h.cells with h0 | ⟨b, off, ha, hbl, hc⟩
  · omega
  · obtain ⟨r, hr⟩ : ∃ r, cs[k]? = some r := ⟨_, List.getElem?_eq_getElem (by rw [h.length]; exact hk)⟩
    exact ⟨b, off, r, ha, hbl, hr, h.byte k r hr, hc k r hr⟩
/-- the range that Made makes of a condition -/
def Cd.rg (c : Cd) : Rg := ⟨(c.lo : Int) % 41, mn 40 ((c.lo : Int) % 41 + (c.wi : Int) % 41), (c.f0 : Int) % 14, mn 13 ((c.f0 : Int) % 14 + (c.t0 : Int) % 14), (c.f1 : Int) % 14, mn 13 ((c.f1 : Int) % 14 + (c.t1 : Int) % 14), (c.f2 : Int) % 14, mn 13 ((c.f2 : Int) % 14 + (c.t2 : Int) % 14), (c.f3 : Int) % 14, mn 13 ((c.f3 : Int) % 14 + (c.t3 : Int) % 14)⟩
def made (cs : List Cd) : List Rg := (cs.take 4).map Cd.rg
theorem mn_ok (g x y : Int) (h : 0 ≤ x) (hx : x ≤ g) (hy : 0 ≤ y) : ordB x (mn g (x + y)) g = true := by
  unfold mn ordB
  split <;> simp <;> omega
theorem Cd.ok (c : Cd) : c.rg.ok = true := by
  have h := fun n m : Nat => mn_ok 13 ((n : Int) % 14) ((m : Int) % 14) (by omega) (by omega) (by omega)
  have hp := mn_ok 40 ((c.lo : Int) % 41) ((c.wi : Int) % 41) (by omega) (by omega) (by omega)
  have e : ∀ k, k < 4 → ordB (c.rg.lo k) (c.rg.hi k) 13 = true := by
    intro k hk
    have : k = 0 ∨ k = 1 ∨ k = 2 ∨ k = 3 := by omega
    rcases this with rfl | rfl | rfl | rfl <;> exact h _ _
  simp only [Rg.ok, Rg.okTo, e 0 (by decide), e 1 (by decide), e 2 (by decide), e 3 (by decide)]
  exact hp
theorem made_ok (cs : List Cd) : rightV (made cs) = true := by
  simp only [rightV, Bool.and_eq_true, decide_eq_true_eq]
  refine ⟨by simp [made]; omega, ?_⟩
  rw [List.all_eq_true]
  intro r hr
  obtain ⟨c, _, rfl⟩ := List.mem_map.1 hr
  exact c.ok
/-- the first k suits made -/
def mkA (c : Cd) (k : Nat) : Array Value := #[.int .i64 ((c.lo : Int) % 41), .int .i64 (mn 40 ((c.lo : Int) % 41 + (c.wi : Int) % 41)),
  .int .i64 (if 0 < k then (c.f0 : Int) % 14 else 0), .int .i64 (if 0 < k then mn 13 ((c.f0 : Int) % 14 + (c.t0 : Int) % 14) else 0),
  .int .i64 (if 1 < k then (c.f1 : Int) % 14 else 0), .int .i64 (if 1 < k then mn 13 ((c.f1 : Int) % 14 + (c.t1 : Int) % 14) else 0),
  .int .i64 (if 2 < k then (c.f2 : Int) % 14 else 0), .int .i64 (if 2 < k then mn 13 ((c.f2 : Int) % 14 + (c.t2 : Int) % 14) else 0),
  .int .i64 (if 3 < k then (c.f3 : Int) % 14 else 0), .int .i64 (if 3 < k then mn 13 ((c.f3 : Int) % 14 + (c.t3 : Int) % 14) else 0)]
structure MW (w : World) (b5 b7 : Nat) (c : Cd) (k : Nat) (v : Value) (l : List Rg) (W : World) : Prop where
  below : Below w.heap.size w W
  own : OwnR W w.heap.size v l
  r5 : Row W b5 110 c.arr
  r7 : Row W b7 73 (mkA c k)
  ne : ∀ g, v.ownBlock = some g → g ≠ b7
  lo : w.heap.size ≤ b7
  n57 : b5 ≠ b7
theorem MW.put {w : World} {b5 b7 : Nat} {c : Cd} {k : Nat} {v : Value} {l : List Rg} {W : World} (h : MW w b5 b7 c k v l W) (x : Array Value) (hx : x = mkA c (k + 1)) : MW w b5 b7 c (k + 1) v l (W.setRow b7 x) := by
  subst hx
  exact ⟨below_setRow h.below h.lo _, h.own.kept fun g he => setRow_other _ _ _ _ (h.ne g he), h.r5.same (setRow_other _ _ _ _ h.n57), setRow_heap _ _ _ _ _ _ h.r7, h.ne, h.lo, h.n57⟩

set_option maxHeartbeats 4000000 in
theorem law_Made (a : Option Addr) (len cap : Nat) (cs : List Cd) (w : World) (hc : Cds w a len cs) (hlc : len ≤ cap) :
    Calls Try.prog 22 #[.slice a len cap] w fun e w' => (∃ v, e = .returned v ∧ OwnR w' w.heap.size v (made cs)) ∧ Below w.heap.size w w' := by
  have HC := Lib.hid hc
  have hsm := hc.small
  have hleng := hc.length
  have Hmade : Hid (made cs = (cs.take (min len 4)).map Cd.rg) := Lib.hid (by
    unfold made
    by_cases h : len ≤ 4
    · rw [Nat.min_eq_left h, List.take_of_length_le (by omega), List.take_of_length_le (by omega)]
    · rw [Nat.min_eq_right (by omega)])
  clear hc hleng
  have HM : Hid (mn (len : Int) 4 = ((min len 4 : Nat) : Int)) := Lib.hid (by unfold mn; split <;> omega)
  have hml : min len 4 ≤ len := by omega
  have hm4 : min len 4 ≤ 4 := by omega
  generalize min len 4 = m at *
  go_enter Try.func22, Try.ntmps22
  go_wp2_with (refine wpList_min rfl (.tmp 12) (.const (.int .i64 4)) _ _ rfl (len : Int) 4 rfl rfl ?_; rw [HM.out])
  go_loopw [3, 5, 6, 7, 8, 9, 16] (fun v _ _ _ _ _ i wr => ∃ (k : Nat), k ≤ m ∧ i = .int .i64 (k : Int) ∧ Below w.heap.size w wr ∧ OwnR wr w.heap.size v ((cs.take k).map Cd.rg)) (fun _ _ _ _ _ _ i _ => m - (intOf i).toNat)
  case atStart => exact ⟨0, by omega, rfl, Below.refl _ _, OwnR.nil _ _⟩
  case round =>
    obtain ⟨k, hk, rfl, hB, hO⟩ := hrel
    by_cases hlt : k < m
    · obtain ⟨ba, offa, c, rfl, hbl, hr, hby, hcell⟩ := (HC.out.below (Nat.le_refl _) hB).ten (k := k) (by omega)
      have hd : decide ((k : Int) < (m : Int)) = true := by simp; omega
      have c0 := hcell 0 (by decide)
      have c1 := hcell 1 (by decide)
      have c2 := hcell 2 (by decide)
      have c3 := hcell 3 (by decide)
      have c4 := hcell 4 (by decide)
      have c5 := hcell 5 (by decide)
      have c6 := hcell 6 (by decide)
      have c7 := hcell 7 (by decide)
      have c8 := hcell 8 (by decide)
      have c9 := hcell 9 (by decide)
      have b0 : c.lo < 256 := hby 0
      have b1 : c.wi < 256 := hby 1
      simp only [Cd.cell, Nat.add_zero] at c0 c1 c2 c3 c4 c5 c6 c7 c8 c9
      have HR := Lib.hid hr
      have HB := Lib.hid hB
      have HO := Lib.hid hO
      have HBY := Lib.hid hby
      clear hr hB hO hby hcell
      go_wp2_with (refine wpList_min rfl (.const (.int .i64 40)) (.tmp 30) _ _ rfl 40 ((c.lo : Int) % 41 + (c.wi : Int) % 41) rfl rfl ?_)
      have hI : MW w wr.heap.size (wr.heap.size + 1) c 0 u3 ((cs.take k).map Cd.rg) ((wr.alloc (.cells c.arr 110)).alloc (.cells (mkA c 0) 73)) := by
        have hb2 : Below wr.heap.size wr ((wr.alloc (.cells c.arr 110)).alloc (.cells (mkA c 0) 73)) := ((Below.refl _ _).alloc (Nat.le_refl _) _).alloc (by simp) _
        exact ⟨HB.out.trans (hb2.mono HB.out.size), HO.out.later hb2, (Row.new _ _ _).alloc _, Row.new1 _ _ _ _, fun g hg => by have := (HO.out.lt g hg).2; omega, by have := HB.out.size; omega, by omega⟩
      have hz : ((wr.alloc (.cells c.arr 110)).alloc (.cells (mkA c 0) 73)) = ((wr.alloc (.cells c.arr 110)).alloc (.cells #[.int .i64 ((c.lo : Int) % 41), .int .i64 (mn 40 ((c.lo : Int) % 41 + (c.wi : Int) % 41)), .int .i64 0, .int .i64 0, .int .i64 0, .int .i64 0, .int .i64 0, .int .i64 0, .int .i64 0, .int .i64 0] 73)) := rfl
      rw [hz] at hI
      clear hz c0 c1 c2 c3 c4 c5 c6 c7 c8 c9 hbl b0 b1 HB HO
      generalize ((wr.alloc (.cells c.arr 110)).alloc (.cells #[.int .i64 ((c.lo : Int) % 41), .int .i64 (mn 40 ((c.lo : Int) % 41 + (c.wi : Int) % 41)), .int .i64 0, .int .i64 0, .int .i64 0, .int .i64 0, .int .i64 0, .int .i64 0, .int .i64 0, .int .i64 0] 73)) = W4 at *
      generalize wr.heap.size + 1 = b7 at *
      generalize wr.heap.size = b5 at *
      have HI := Lib.hid hI
      clear hI
      go_loopw [8, 9, 34] (fun _ _ i wi => ∃ (q : Nat), q ≤ 4 ∧ i = .int .i64 (q : Int) ∧ MW w b5 b7 c q u3 ((cs.take k).map Cd.rg) wi) (fun _ _ i _ => 4 - (intOf i).toNat)
      case atStart => exact ⟨0, by omega, rfl, HI.out⟩
      case round =>
        obtain ⟨q, hq, rfl, hW⟩ := hrel
        by_cases hql : q < 4
        · have h5 := hW.r5
          have d0 := h5.cell 0
          have d1 := h5.cell 1
          have d2 := h5.cell 2
          have d3 := h5.cell 3
          have d4 := h5.cell 4
          have d5 := h5.cell 5
          have d6 := h5.cell 6
          have d7 := h5.cell 7
          have d8 := h5.cell 8
          have d9 := h5.cell 9
          simp only [List.getElem?_toArray, List.getElem?_cons_zero, List.getElem?_cons_succ] at d0 d1 d2 d3 d4 d5 d6 d7 d8 d9
          have HW := Lib.hid hW
          clear hW h5
          have hq4 : q = 0 ∨ q = 1 ∨ q = 2 ∨ q = 3 := by omega
          clear hq hql
          rcases hq4 with rfl | rfl | rfl | rfl
          · -- suit 0
            have bf : c.f0 < 256 := HBY.out 2
            have bt : c.t0 < 256 := HBY.out 6
            have HZ : Hid (mkA c 1 = putAt (mkA c 0) 2 [.int .i64 ((c.f0 : Int) % 14), .int .i64 (mn 13 ((c.f0 : Int) % 14 + (c.t0 : Int) % 14))]) := Lib.hid rfl
            have H7 := Lib.hid HW.out.r7
            go_wp2_with (first
              | refine wpList_min rfl (.const (.int .i64 13)) (.tmp 52) _ _ rfl 13 ((c.f0 : Int) % 14 + (c.t0 : Int) % 14) rfl rfl ?_
              | refine wpList_store_part rfl 50 (.tmp 56) (.tmp 54) rfl b7 2 #[.int .i64 ((c.f0 : Int) % 14), .int .i64 (mn 13 ((c.f0 : Int) % 14 + (c.t0 : Int) % 14))] rfl rfl _ (mkA c 0) H7.out (by rw [size36]; rfl) (by simp [mkA]) (by simp; exact ⟨rfl, rfl⟩) ?_)
            go_roundw
            · exact ⟨1, by omega, rfl, HW.out.put (putAt (mkA c 0) 2 [.int .i64 ((c.f0 : Int) % 14), .int .i64 (mn 13 ((c.f0 : Int) % 14 + (c.t0 : Int) % 14))]) HZ.out.symm⟩
            · simp [intOf]
          · -- suit 1
            have bf : c.f1 < 256 := HBY.out 3
            have bt : c.t1 < 256 := HBY.out 7
            have HZ : Hid (mkA c 2 = putAt (mkA c 1) 4 [.int .i64 ((c.f1 : Int) % 14), .int .i64 (mn 13 ((c.f1 : Int) % 14 + (c.t1 : Int) % 14))]) := Lib.hid rfl
            have H7 := Lib.hid HW.out.r7
            go_wp2_with (first
              | refine wpList_min rfl (.const (.int .i64 13)) (.tmp 52) _ _ rfl 13 ((c.f1 : Int) % 14 + (c.t1 : Int) % 14) rfl rfl ?_
              | refine wpList_store_part rfl 50 (.tmp 56) (.tmp 54) rfl b7 4 #[.int .i64 ((c.f1 : Int) % 14), .int .i64 (mn 13 ((c.f1 : Int) % 14 + (c.t1 : Int) % 14))] rfl rfl _ (mkA c 1) H7.out (by rw [size36]; rfl) (by simp [mkA]) (by simp; exact ⟨rfl, rfl⟩) ?_)
            go_roundw
            · exact ⟨2, by omega, rfl, HW.out.put (putAt (mkA c 1) 4 [.int .i64 ((c.f1 : Int) % 14), .int .i64 (mn 13 ((c.f1 : Int) % 14 + (c.t1 : Int) % 14))]) HZ.out.symm⟩
            · simp [intOf]
          · -- suit 2
            have bf : c.f2 < 256 := HBY.out 4
            have bt : c.t2 < 256 := HBY.out 8
            have HZ : Hid (mkA c 3 = putAt (mkA c 2) 6 [.int .i64 ((c.f2 : Int) % 14), .int .i64 (mn 13 ((c.f2 : Int) % 14 + (c.t2 : Int) % 14))]) := Lib.hid rfl
            have H7 := Lib.hid HW.out.r7
            go_wp2_with (first
              | refine wpList_min rfl (.const (.int .i64 13)) (.tmp 52) _ _ rfl 13 ((c.f2 : Int) % 14 + (c.t2 : Int) % 14) rfl rfl ?_
              | refine wpList_store_part rfl 50 (.tmp 56) (.tmp 54) rfl b7 6 #[.int .i64 ((c.f2 : Int) % 14), .int .i64 (mn 13 ((c.f2 : Int) % 14 + (c.t2 : Int) % 14))] rfl rfl _ (mkA c 2) H7.out (by rw [size36]; rfl) (by simp [mkA]) (by simp; exact ⟨rfl, rfl⟩) ?_)
            go_roundw
            · exact ⟨3, by omega, rfl, HW.out.put (putAt (mkA c 2) 6 [.int .i64 ((c.f2 : Int) % 14), .int .i64 (mn 13 ((c.f2 : Int) % 14 + (c.t2 : Int) % 14))]) HZ.out.symm⟩
            · simp [intOf]
          · -- suit 3
            have bf : c.f3 < 256 := HBY.out 5
            have bt : c.t3 < 256 := HBY.out 9
            have HZ : Hid (mkA c 4 = putAt (mkA c 3) 8 [.int .i64 ((c.f3 : Int) % 14), .int .i64 (mn 13 ((c.f3 : Int) % 14 + (c.t3 : Int) % 14))]) := Lib.hid rfl
            have H7 := Lib.hid HW.out.r7
            go_wp2_with (first
              | refine wpList_min rfl (.const (.int .i64 13)) (.tmp 52) _ _ rfl 13 ((c.f3 : Int) % 14 + (c.t3 : Int) % 14) rfl rfl ?_
              | refine wpList_store_part rfl 50 (.tmp 56) (.tmp 54) rfl b7 8 #[.int .i64 ((c.f3 : Int) % 14), .int .i64 (mn 13 ((c.f3 : Int) % 14 + (c.t3 : Int) % 14))] rfl rfl _ (mkA c 3) H7.out (by rw [size36]; rfl) (by simp [mkA]) (by simp; exact ⟨rfl, rfl⟩) ?_)
            go_roundw
            · exact ⟨4, by omega, rfl, HW.out.put (putAt (mkA c 3) 8 [.int .i64 ((c.f3 : Int) % 14), .int .i64 (mn 13 ((c.f3 : Int) % 14 + (c.t3 : Int) % 14))]) HZ.out.symm⟩
            · simp [intOf]
        · obtain rfl : q = 4 := by omega
          have HW := Lib.hid hW
          clear hW
          have H7 := Lib.hid HW.out.r7
          have HV : Hid (mkA c 4 = c.rg.arr) := Lib.hid rfl
          rw [HV.out] at H7
          generalize hx : c.rg = x at *
          have hown : OwnR (wr.alloc (.cells x.arr 73)) w.heap.size u3 ((cs.take k).map Cd.rg) := HW.out.own.later ((Below.refl _ _).alloc (Nat.le_refl _) _)
          have HOW := Lib.hid hown
          have hbs : w.heap.size ≤ (wr.alloc (.cells x.arr 73)).heap.size := by have := HW.out.below.size; simp; omega
          have HBS := Lib.hid hbs
          have HN : Hid ((cs.take (k + 1)).map Cd.rg = (cs.take k).map Cd.rg ++ [x]) := Lib.hid (by rw [List.take_add_one, HR.out, ← hx]; simp)
          have HL1 : Hid (((cs.take k).map Cd.rg).length + 1 ≤ 100000) := Lib.hid (by simp; omega)
          clear hown hbs hx
          go_wp2_with (first
            | refine wpList_load_row rfl 73 (.tmp 7) rfl b7 rfl 73 x.arr (0, 0) _ H7.out Try.underlying73 rfl (by rw [size39]; rfl) ?_
            | (refine appR rfl (.tmp 58) (.tmp 60) rfl w.heap.size u3 ((cs.take k).map Cd.rg) [x] rfl HOW.out ⟨wr.heap.size, 0, none⟩ 1 1 rfl (rgs_new1 wr x) HL1.out HBS.out ?_; intro v' w7 h1 h2 h3 h4; have HB7 := Lib.hid ((HW.out.below.alloc HW.out.below.size (.cells x.arr 73)).trans h2); rw [← HN.out] at h1; have HO7 := Lib.hid h1; clear h1 h2 h3 h4))
          go_roundw
          · exact ⟨k + 1, by omega, by simp, HB7.out, HO7.out⟩
          · simp [intOf]; omega
    · obtain rfl : k = m := by omega
      rw [← Hmade.out] at hO
      have HB := Lib.hid hB
      have HO := Lib.hid hO
      clear hB hO
      go_wp2_with fail
      go_ret
      exact ⟨⟨_, rfl, HO.out⟩, HB.out⟩
end Go.Proofs.Ytikdkhiehfccpaa
