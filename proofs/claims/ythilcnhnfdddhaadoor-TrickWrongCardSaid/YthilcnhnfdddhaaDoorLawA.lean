/- Contracts of finesselaw11.mask and awake over this seat's program. -/
import Derived.Test.YthilcnhnfdddhaaDoorCover
import Derived.Deep.RegionHeld3
namespace Go.Proofs.YthilcnhnfdddhaaDoor
open Go.RowKit Go.Shelf Go.Sort

/-- finesselaw11.mask -/
def maskOf (zs : List Nat) : Nat := zs.foldl (fun m c => lor m (shl1 c)) 0
theorem maskOf_w64 (zs : List Nat) : W64 (maskOf zs) := by
  have : ∀ (l : List Nat) f, W64 f → W64 (l.foldl (fun m c => lor m (shl1 c)) f) := by
    intro l
    induction l with
    | nil => exact fun f h => h
    | cons c l ih => exact fun f h => ih _ (h.lor (W64.shl1 c))
  exact this zs 0 W64.zero
theorem take_snoc (zs : List Nat) (k : Nat) (h : k < zs.length) : zs.take (k + 1) = zs.take k ++ [zs.getD k 0] := by
  rw [List.take_succ_eq_append_getElem h, List.getD_eq_getElem?_getD, List.getElem?_eq_getElem h]; rfl

theorem law_mask (a : Option Addr) (len cap : Nat) (zs : List Nat) (w : World) (hz : Byt w a len zs) :
    Calls Tryd.prog 19 #[.slice a len cap] w fun e w' => e = .returned (.int .u64 (maskOf zs : Int)) ∧ w = w' := by
  have HL := Lib.hid hz.length
  have hsm := hz.small
  go_enter Tryd.func19, Tryd.ntmps19
  go_wp2
  go_loop [3, 5, 8] (fun m _ i => ∃ (k : Nat), k ≤ len ∧ i = .int .i64 k ∧ m = .int .u64 (maskOf (zs.take k) : Int)) (fun _ _ i => len - (intOf i).toNat)
  case atStart => exact ⟨0, Nat.zero_le _, rfl, rfl⟩
  case round =>
    obtain ⟨k, hk, rfl, rfl⟩ := hrel
    have hw := maskOf_w64 (zs.take k)
    by_cases hlt : k < len
    · obtain ⟨b, off, rfl, hb, hcs⟩ := hz.at (by omega)
      have hc := hcs k hlt
      have ht : maskOf (zs.take (k + 1)) = lor (maskOf (zs.take k)) (shl1 (zs.getD k 0)) := by
        rw [take_snoc zs k (by rw [HL.out]; exact hlt)]; simp [maskOf]
      clear hcs
      generalize zs.getD k 0 = x at *
      have HT := Lib.hid ht
      clear ht
      go_wp2
      go_round
      case rel => exact ⟨k + 1, by omega, by go_num, by rw [HT.out]⟩
      case measure => simp [intOf]; omega
    · go_wp2
      go_ret
      exact ⟨by simp [List.take_of_length_le (show zs.length ≤ k by rw [HL.out]; omega)], rfl⟩

theorem byt_lit (w : World) (zs : List Nat) (cs : Array Value) (hcs : cs = (u8s zs).toArray) (hs : zs.length ≤ 140737488351232) (hb : ∀ i, zs.getD i 0 < 256) :
    Byt (w.alloc (.cells cs 5)) (some ⟨w.heap.size, 0, none⟩) zs.length zs := by
  refine ⟨rfl, hs, hb, .inr ⟨w.heap.size, 0, rfl, by simp, fun i hi => ?_⟩⟩
  subst hcs
  simp only [World.cell?, World.alloc_heap_new]
  simp [u8s, hi]
theorem Byt.take {w : World} {a : Option Addr} {len : Nat} {zs : List Nat} (h : Byt w a len zs) (k : Nat) (hk : k ≤ len) : Byt w a k (zs.take k) := by
  refine ⟨by rw [List.length_take, h.length]; omega, Nat.le_trans hk h.small, fun i => ?_, ?_⟩
  · rw [List.getD_eq_getElem?_getD, List.getElem?_take]
    split
    · have := h.byte i; rwa [List.getD_eq_getElem?_getD] at this
    · simp
  · rcases h.cells with h0 | ⟨b, off, ha, hb, hc⟩
    · exact .inl (by omega)
    · refine .inr ⟨b, off, ha, hb, fun i hi => ?_⟩
      rw [hc i (by omega), List.getD_eq_getElem?_getD, List.getD_eq_getElem?_getD, List.getElem?_take, if_pos hi]

theorem below_a {wa w' : World} {o : Obj} (h : Below (wa.alloc o).heap.size (wa.alloc o) w') : Below wa.heap.size wa w' :=
  ((Below.refl _ _).alloc (Nat.le_refl _) o).trans (h.mono (by simp))
theorem below_ad {wa w' : World} {o : Obj} (h : Below (wa.alloc o).drew.heap.size (wa.alloc o).drew w') : Below wa.heap.size wa w' :=
  (((Below.refl _ _).alloc (Nat.le_refl _) o).drew).trans (h.mono (by simp [World.drew]))

set_option maxRecDepth 100000 in
set_option maxHeartbeats 4000000 in
theorem law_awake (w : World) (hT : Tab w) :
    Calls Tryd.prog 12 #[] w fun e w' => e = .returned (.bool true) ∧ Below w.heap.size w w' := by
  have hz0 := byt_lit w [39, 51, 40, 0] #[.int .u8 39, .int .u8 51, .int .u8 40, .int .u8 0] rfl (by decide) (by intro i; rcases i with _ | _ | _ | _ | _ <;> simp)
  have hB0 : Below w.heap.size w (w.alloc (.cells #[.int .u8 39, .int .u8 51, .int .u8 40, .int .u8 0] 5)) := (Below.refl _ _).alloc (Nat.le_refl _) _
  have HZ0 := Lib.hid hz0
  clear hz0
  go_enter Tryd.func12, Tryd.ntmps12
  go_wp2_with fail
  refine (trick_Winner 4 _ _ _ [39, 51, 40, 0] _ HZ0.out).mono ?_
  rw [show winnerV 4 [39, 51, 40, 0] = (1, 0) from by decide +kernel]
  rintro e w1 ⟨rfl, hb1⟩
  have hz1 := HZ0.out.below (Nat.le_refl _) hb1
  have hB1 := hB0.trans (hb1.mono hB0.size)
  go_wp2_with fail
  refine (trick_Winner 0 _ _ _ [39, 51, 40, 0] _ hz1).mono ?_
  rw [show winnerV 0 [39, 51, 40, 0] = (3, 0) from by decide +kernel]
  rintro e w2 ⟨rfl, hb2⟩
  have hz2 := hz1.below (Nat.le_refl _) hb2
  have hB2 := hB1.trans (hb2.mono hB1.size)
  clear hz1
  go_wp2_with fail
  refine (trick_Seat 4 2 _ _ _ [39, 51, 40, 0] _ hz2).mono ?_
  rw [show seatV 4 2 [39, 51, 40, 0] = (3, 0) from by decide +kernel]
  rintro e w3 ⟨rfl, hb3⟩
  have hz3 := hz2.below (Nat.le_refl _) hb3
  have hB3 := hB2.trans (hb3.mono hB2.size)
  clear hz2
  go_wp2_with fail
  refine (trick_Seat 0 2 _ _ _ [39, 51, 40, 0] _ hz3).mono ?_
  rw [show seatV 0 2 [39, 51, 40, 0] = (1, 0) from by decide +kernel]
  rintro e w4 ⟨rfl, hb4⟩
  have hz4 := hz3.below (Nat.le_refl _) hb4
  have hB4 := hB3.trans (hb4.mono hB3.size)
  clear hz3
  go_wp2_with fail
  refine (trick_Beats 0 12 _ _ _ [39, 51] _ (hz4.take 2 (by decide)) (by decide)).mono ?_
  rw [show beatsV 0 [39, 51] 12 = (true, 0) from by decide +kernel]
  rintro e w5 ⟨rfl, hb5⟩
  have hz5 := hz4.below (Nat.le_refl _) hb5
  have hB5 := hB4.trans (hb5.mono hB4.size)
  clear hz4
  go_wp2_with fail
  refine (trick_Beats 2 12 _ _ _ [39, 51] _ (hz5.take 2 (by decide)) (by decide)).mono ?_
  rw [show beatsV 2 [39, 51] 12 = (false, 0) from by decide +kernel]
  rintro e w6 ⟨rfl, hb6⟩
  have hz6 := hz5.below (Nat.le_refl _) hb6
  have hB6 := hB5.trans (hb6.mono hB5.size)
  clear hz5
  go_wp2_with fail
  have hT6 := hT.below hT.pos hB6
  have HZ6 := Lib.hid hz6
  have HT6 := Lib.hid hT6
  clear hz6 hT6
  have hm7 := law_mask (some ⟨w6.heap.size, 0, none⟩) 3 3 [0, 13, 40] ((w6.alloc (Obj.cells #[Value.int IntKind.u8 0, Value.int IntKind.u8 13, Value.int IntKind.u8 40] 5)).drew) ((byt_lit w6 [0, 13, 40] #[Value.int IntKind.u8 0, Value.int IntKind.u8 13, Value.int IntKind.u8 40] rfl (by decide) (by intro i; rcases i with _ | _ | _ | _ <;> simp)).below (Nat.le_refl _) (Below.refl _ _).drew)
  have hp7 := trick_Playable (maskOf [0, 13, 40]) (some ⟨w.heap.size, 0, none⟩) 1 4 [39] ((w6.alloc (Obj.cells #[Value.int IntKind.u8 0, Value.int IntKind.u8 13, Value.int IntKind.u8 40] 5)).drew) ((HZ6.out.take 1 (by decide)).below (Nat.le_refl _) (((Below.refl _ _).alloc (Nat.le_refl _) _).drew)) (maskOf_w64 _) (HT6.out.below HT6.out.pos (((Below.refl _ _).alloc (Nat.le_refl _) _).drew))
  rw [show playableV (maskOf [0, 13, 40]) [39] = (maskOf [40], 0) from by decide +kernel] at hp7
  have HM7 := Lib.hid hm7
  have HP7 := Lib.hid hp7
  clear hm7 hp7
  go_region_held3 (fun _ => True) (trivial) (first
    | (go_at_call 19; refine HM7.out.mono ?_; rintro e w' ⟨rfl, rfl⟩)
    | (go_at_call 17; refine HP7.out.mono ?_; rintro e w7 ⟨rfl, hb7⟩))
  have hz7 := HZ6.out.below (Nat.le_refl _) (below_ad hb7)
  have hB7 := hB6.trans ((below_ad hb7).mono hB6.size)
  clear HZ6 HT6 HM7 HP7
  have hT7 := hT.below hT.pos hB7
  have HZ7 := Lib.hid hz7
  have HT7 := Lib.hid hT7
  clear hz7 hT7
  go_wp2_with fail
  refine (law_mask _ _ _ [0, 13, 40] _ (byt_lit w7 [0, 13, 40] #[Value.int IntKind.u8 0, Value.int IntKind.u8 13, Value.int IntKind.u8 40] rfl (by decide) (by intro i; rcases i with _ | _ | _ | _ <;> simp))).mono ?_
  rintro e w' ⟨rfl, rfl⟩
  go_wp2_with fail
  have hz26 := byt_lit (w7.alloc (Obj.cells #[Value.int IntKind.u8 0, Value.int IntKind.u8 13, Value.int IntKind.u8 40] 5)) [26] #[Value.int IntKind.u8 26] rfl (by decide) (by intro i; rcases i with _ | _ <;> simp)
  rw [World.size_alloc] at hz26
  refine (trick_Playable (maskOf [0, 13, 40]) (some ⟨w7.heap.size + 1, 0, none⟩) 1 1 [26] _ hz26 (maskOf_w64 _) (HT7.out.below HT7.out.pos (((Below.refl _ _).alloc (Nat.le_refl _) _).alloc (by simp) _))).mono ?_
  rw [show playableV (maskOf [0, 13, 40]) [26] = (maskOf [0, 13, 40], 0) from by decide +kernel]
  rintro e w8 ⟨rfl, hb8⟩
  clear hz26
  have hz8 := HZ7.out.below (Nat.le_refl _) (below_a (below_a hb8))
  have hB8 := hB7.trans ((below_a (below_a hb8)).mono hB7.size)
  clear HZ7 HT7
  go_wp2_with fail
  have hT8 := hT.below hT.pos hB8
  have HZ8 := Lib.hid hz8
  have HT8 := Lib.hid hT8
  clear hz8 hT8
  have hm9 := law_mask (some ⟨w8.heap.size, 0, none⟩) 3 3 [0, 12, 40] ((w8.alloc (Obj.cells #[Value.int IntKind.u8 0, Value.int IntKind.u8 12, Value.int IntKind.u8 40] 5)).drew) ((byt_lit w8 [0, 12, 40] #[Value.int IntKind.u8 0, Value.int IntKind.u8 12, Value.int IntKind.u8 40] rfl (by decide) (by intro i; rcases i with _ | _ | _ | _ <;> simp)).below (Nat.le_refl _) (Below.refl _ _).drew)
  have hp9 := trick_Winners 0 (maskOf [0, 12, 40]) (some ⟨w.heap.size, 0, none⟩) 2 4 [39, 51] ((w8.alloc (Obj.cells #[Value.int IntKind.u8 0, Value.int IntKind.u8 12, Value.int IntKind.u8 40] 5)).drew) ((HZ8.out.take 2 (by decide)).below (Nat.le_refl _) (((Below.refl _ _).alloc (Nat.le_refl _) _).drew)) (maskOf_w64 _) (HT8.out.below HT8.out.pos (((Below.refl _ _).alloc (Nat.le_refl _) _).drew))
  rw [show winnersV 0 (maskOf [0, 12, 40]) [39, 51] = (0, 0) from by decide +kernel] at hp9
  have HM9 := Lib.hid hm9
  have HP9 := Lib.hid hp9
  clear hm9 hp9
  go_region_held3 (fun _ => True) (trivial) (first
    | (go_at_call 19; refine HM9.out.mono ?_; rintro e w' ⟨rfl, rfl⟩)
    | (go_at_call 20; refine HP9.out.mono ?_; rintro e w9 ⟨rfl, hb9⟩))
  have hz9 := HZ8.out.below (Nat.le_refl _) (below_ad hb9)
  have hB9 := hB8.trans ((below_ad hb9).mono hB8.size)
  clear HZ8 HT8 HM9 HP9
  go_wp2_with fail
  have hT9 := hT.below hT.pos hB9
  have HZ9 := Lib.hid hz9
  have HT9 := Lib.hid hT9
  clear hz9 hT9
  have hm10 := law_mask (some ⟨w9.heap.size, 0, none⟩) 2 2 [0, 12] ((w9.alloc (Obj.cells #[Value.int IntKind.u8 0, Value.int IntKind.u8 12] 5)).drew) ((byt_lit w9 [0, 12] #[Value.int IntKind.u8 0, Value.int IntKind.u8 12] rfl (by decide) (by intro i; rcases i with _ | _ | _ <;> simp)).below (Nat.le_refl _) (Below.refl _ _).drew)
  have hp10 := trick_Winners 0 (maskOf [0, 12]) (some ⟨w.heap.size, 0, none⟩) 2 4 [39, 51] ((w9.alloc (Obj.cells #[Value.int IntKind.u8 0, Value.int IntKind.u8 12] 5)).drew) ((HZ9.out.take 2 (by decide)).below (Nat.le_refl _) (((Below.refl _ _).alloc (Nat.le_refl _) _).drew)) (maskOf_w64 _) (HT9.out.below HT9.out.pos (((Below.refl _ _).alloc (Nat.le_refl _) _).drew))
  rw [show winnersV 0 (maskOf [0, 12]) [39, 51] = (maskOf [0, 12], 0) from by decide +kernel] at hp10
  have HM10 := Lib.hid hm10
  have HP10 := Lib.hid hp10
  clear hm10 hp10
  go_region_held3 (fun _ => True) (trivial) (first
    | (go_at_call 19; refine HM10.out.mono ?_; rintro e w' ⟨rfl, rfl⟩)
    | (go_at_call 20; refine HP10.out.mono ?_; rintro e w10 ⟨rfl, hb10⟩))
  have hz10 := HZ9.out.below (Nat.le_refl _) (below_ad hb10)
  have hB10 := hB9.trans ((below_ad hb10).mono hB9.size)
  clear HZ9 HT9 HM10 HP10
  go_wp2_with fail
  have hT10 := hT.below hT.pos hB10
  have HZ10 := Lib.hid hz10
  have HT10 := Lib.hid hT10
  clear hz10 hT10
  have hm11 := law_mask (some ⟨w10.heap.size, 0, none⟩) 2 2 [0, 12] ((w10.alloc (Obj.cells #[Value.int IntKind.u8 0, Value.int IntKind.u8 12] 5)).drew) ((byt_lit w10 [0, 12] #[Value.int IntKind.u8 0, Value.int IntKind.u8 12] rfl (by decide) (by intro i; rcases i with _ | _ | _ <;> simp)).below (Nat.le_refl _) (Below.refl _ _).drew)
  have hp11 := trick_Cover 0 (maskOf [0, 12]) (some ⟨w.heap.size, 0, none⟩) 2 4 [39, 51] ((w10.alloc (Obj.cells #[Value.int IntKind.u8 0, Value.int IntKind.u8 12] 5)).drew) ((HZ10.out.take 2 (by decide)).below (Nat.le_refl _) (((Below.refl _ _).alloc (Nat.le_refl _) _).drew)) (maskOf_w64 _) (HT10.out.below HT10.out.pos (((Below.refl _ _).alloc (Nat.le_refl _) _).drew))
  rw [show coverV 0 (maskOf [0, 12]) [39, 51] = (0, true) from by decide +kernel] at hp11
  have HM11 := Lib.hid hm11
  have HP11 := Lib.hid hp11
  clear hm11 hp11
  go_region_held3 (fun _ => True) (trivial) (first
    | (go_at_call 19; refine HM11.out.mono ?_; rintro e w' ⟨rfl, rfl⟩)
    | (go_at_call 21; refine HP11.out.mono ?_; rintro e w11 ⟨rfl, hb11⟩))
  have hz11 := HZ10.out.below (Nat.le_refl _) (below_ad hb11)
  have hB11 := hB10.trans ((below_ad hb11).mono hB10.size)
  clear HZ10 HT10 HM11 HP11
  clear hz11
  go_wp2_with fail
  refine (trick_Winner 0 _ _ _ [0, 0] _ (byt_lit w11 [0, 0] #[Value.int IntKind.u8 0, Value.int IntKind.u8 0] rfl (by decide) (by intro i; rcases i with _ | _ | _ <;> simp))).mono ?_
  rw [show winnerV 0 [0, 0] = (0, 110) from by decide +kernel]
  rintro e w12 ⟨rfl, hb12⟩
  have hB12 := hB11.trans ((below_a hb12).mono hB11.size)
  go_wp2_with fail
  have hza := byt_lit w12 [40] #[Value.int IntKind.u8 40] rfl (by decide) (by intro i; rcases i with _ | _ <;> simp)
  refine (law_mask _ _ _ [40] _ hza).mono ?_
  rintro e w' ⟨rfl, rfl⟩
  go_wp2_with fail
  have hzb := byt_lit (w12.alloc (Obj.cells #[Value.int IntKind.u8 40] 5)) [0, 13, 40] #[Value.int IntKind.u8 0, Value.int IntKind.u8 13, Value.int IntKind.u8 40] rfl (by decide) (by intro i; rcases i with _ | _ | _ | _ <;> simp)
  rw [World.size_alloc] at hzb
  refine (law_mask (some ⟨w12.heap.size + 1, 0, none⟩) 3 3 [0, 13, 40] _ hzb).mono ?_
  rintro e w' ⟨rfl, rfl⟩
  go_wp2_with fail
  have hzc := byt_lit ((w12.alloc (Obj.cells #[Value.int IntKind.u8 40] 5)).alloc (Obj.cells #[Value.int IntKind.u8 0, Value.int IntKind.u8 13, Value.int IntKind.u8 40] 5)) [0, 12] #[Value.int IntKind.u8 0, Value.int IntKind.u8 12] rfl (by decide) (by intro i; rcases i with _ | _ | _ <;> simp)
  rw [World.size_alloc, World.size_alloc] at hzc
  refine (law_mask (some ⟨w12.heap.size + 1 + 1, 0, none⟩) 2 2 [0, 12] _ hzc).mono ?_
  rintro e w' ⟨rfl, rfl⟩
  go_wp2_with fail
  go_ret
  exact ⟨rfl, hB12.trans ((((Below.refl _ _).alloc (Nat.le_refl _) _).alloc (by simp) _).alloc (by simp; omega) _ |>.mono hB12.size)⟩
end Go.Proofs.YthilcnhnfdddhaaDoor
