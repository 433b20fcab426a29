/- finesselaw11.TrickWrong returns true for every input. -/
import Derived.Test.YthilcnhnfdddhaaDoorMadeN
import Derived.Test.YthilcnhnfdddhaaDoorFollow
import Derived.Test.YthilcnhnfdddhaaDoorWrongR
import Derived.Test.YthilcnhnfdddhaaDoorKit
import Derived.Test.YthilcnhnfdddhaaDoorWinOne
namespace Go.Proofs.YthilcnhnfdddhaaDoor
open Go.RowKit Go.Shelf Go.Sort

/-- lists that are none: everything is rejected -/
theorem wrong_vals (l : List Nat) (H : Nat) (h : rightB l = false) (h0 : l.length ≠ 0) (hH : H < 4503599627370496) :
    winnerV 4 l = (0, 110) ∧ winnersV 4 H l = (0, 110) ∧ coverV 4 H l = (0, false) := by
  have h1 : winnerV 4 l = (0, 110) := by unfold winnerV; rw [if_neg (by omega), h]; rfl
  have hp : playableV H l = (0, 110) := by
    unfold playableV; rw [if_neg (Nat.not_le_of_lt hH), if_neg h0, h]; rfl
  have h2 : winnersV 4 H l = (0, 110) := by unfold winnersV; rw [if_neg (by omega), hp]; rfl
  refine ⟨h1, h2, ?_⟩
  unfold coverV; rw [h2]; rfl
theorem own_map_right {l : List Nat} (h4 : l.length = 4) (n bad c : Nat) (hb : 52 ≤ bad) :
    rightB (l.take 2 ++ [l.getD (n % 2) 0]) = false ∧ rightB (l.take 2 ++ [bad]) = false ∧ rightB (l ++ [c % 52]) = false := by
  refine ⟨?_, ?_, right_false_len (.inr (by simp; omega))⟩
  · refine right_false_twice (k := 2) (j := n % 2) (by simp; omega) (Nat.mod_lt _ (by decide)) ?_
    have hl : (l.take 2).length = 2 := by simp; omega
    rw [getD_left (by rw [hl]; exact Nat.mod_lt _ (by decide)), getD_right (by rw [hl]; omega), hl, getD_take (Nat.mod_lt _ (by decide))]; rfl
  · refine right_false_big (k := 2) (by simp; omega) ?_
    have hl : (l.take 2).length = 2 := by simp; omega
    rw [getD_right (by rw [hl]; omega), hl]
    show ¬ bad < 52
    omega

theorem OwnB.bytTake {w : World} {base : Nat} {v : Value} {zs : List Nat} (h : OwnB w base v zs) (k : Nat) (hk : k ≤ zs.length) (hs : k ≤ 140737488351232) (hb : ∀ i, zs.getD i 0 < 256) :
    ∃ a cap, v = .slice a zs.length cap ∧ zs.length ≤ cap ∧ Byt w a k (zs.take k) := by
  obtain ⟨h1, ⟨rfl, h2⟩ | ⟨g, cap, cur, rfl, hg, hh, hc, hm, hcs, ht⟩⟩ := h
  · refine ⟨none, 0, by rw [h2], by omega, ?_⟩
    have h0 : k = 0 := by omega
    subst h0
    exact ⟨by simp, by omega, fun i => by simp, .inl rfl⟩
  · refine ⟨_, cap, rfl, hc, by rw [List.length_take]; omega, hs, fun i => ?_, .inr ⟨g, 0, rfl, (Array.getElem?_eq_some_iff.1 hh).1, fun i hi => ?_⟩⟩
    · rcases Nat.lt_or_ge i k with h | h
      · rw [getD_take h]; exact hb i
      · rw [List.getD_eq_getElem?_getD, List.getElem?_eq_none (by rw [List.length_take]; omega)]; simp
    · have hi2 : i < zs.length := by omega
      have e1 : (u8s zs)[i]? = some (.int .u8 ((zs.getD i 0 : Nat) : Int)) := by
        unfold u8s; rw [List.getElem?_map, List.getD_eq_getElem?_getD, List.getElem?_eq_getElem hi2]; rfl
      rw [← ht, List.getElem?_take, if_pos (by omega)] at e1
      rw [getD_take hi]
      simp only [World.cell?, hh]
      simpa using e1
theorem own_ne_nil {w : World} {B : Nat} {v : Value} {zs : List Nat} (h : OwnB w B v zs) (hp : 0 < zs.length) : v ≠ .slice none 0 0 := by
  obtain ⟨h1, ⟨rfl, h2⟩ | ⟨g, cap, cur, rfl, hg, hh, hc, hm, hcs, ht⟩⟩ := h
  · omega
  · intro e; cases e
theorem own_shape {w : World} {B : Nat} {v : Value} {zs : List Nat} (h : OwnB w B v zs) : ∃ a n c, v = .slice a n c := by
  obtain ⟨h1, ⟨rfl, h2⟩ | ⟨g, cap, cur, rfl, hg, hh, hc, hm, hcs, ht⟩⟩ := h
  · exact ⟨_, _, _, rfl⟩
  · exact ⟨_, _, _, rfl⟩
theorem none_of {ops : List Oper} {f : Done} (hcl : ∀ j, (f j).isSome = true → ∀ k ∈ waits ops j, (f k).isSome = true) {i : Nat} (hi : f i = none) {j : Nat} (hm : i ∈ waits ops j) : f j = none := by
  cases h : f j with
  | none => rfl
  | some x => have := hcl j (by rw [h]; rfl) i hm; rw [hi] at this; cases this
theorem uncons {α : Type} {vs : List α} {n : Nat} (h : vs.length = n + 1) : ∃ v t, vs = v :: t ∧ t.length = n := by
  cases vs with
  | nil => cases h
  | cons v t => exact ⟨v, t, rfl, by simpa using h⟩
set_option maxHeartbeats 4000000 in
set_option maxRecDepth 100000 in
theorem law_TrickWrong (a : Option Addr) (len cap : Nat) (zs : List Nat) (n c hand : Nat) (w : World) (hz : Byt w a len zs ∧ (a = none → cap = 0) ∧ len ≤ cap) (hn : n < 256) (hc : c < 256) (hh : W64 hand) (hT : Tab w) :
    Calls Tryd.prog 9 #[.slice a len cap, .int .u8 (n : Int), .int .u8 (c : Int), .int .u64 (hand : Int)] w fun e w' => e = .returned (.bool true) ∧ Below w.heap.size w w' := by
  obtain ⟨hz, hnil, hcap⟩ := hz
  have hsm := hz.small
  have hlen := hz.length
  have HN := Lib.hid hnil
  have HL := Lib.hid hlen
  clear hnil hlen
  go_enter Tryd.func9, Tryd.ntmps9
  go_wp2_with fail
  refine (law_awake _ hT).mono ?_
  rintro e w1 ⟨rfl, hb1⟩
  have hz1 := hz.below (Nat.le_refl _) hb1
  go_wp2_with fail
  refine (slices_clone _ _ _ zs _ hz1 HN.out).mono ?_
  rintro e w2 ⟨v2, rfl, hv2, hb2⟩
  have hB2 := hb1.trans (hb2.mono hb1.size)
  have hs2 : w1.heap.size ≤ w2.heap.size := hb2.size
  have hz4 := byt_lit w2 [1, 14, 27, 40] #[.int .u8 1, .int .u8 14, .int .u8 27, .int .u8 40] rfl (by decide) (by intro i; rcases i with _ | _ | _ | _ | _ <;> simp)
  have HZ4 := Lib.hid hz4
  clear hz4
  have hzl : zs.length ≤ 140737488351232 := by rw [HL.out]; exact hsm
  go_wp2_with (at_builtin; refine app_any rfl (.tmp 36) (.tmp 37) rfl w1.heap.size _ zs [1, 14, 27, 40] rfl (OwnB.alloc hv2 _) _ _ _ rfl HZ4.out (fun h => by cases h) (by omega) (by simp only [World.size_alloc]; omega) ?_; intro v3 w3 hown3 hB3 _)
  have hby3 : ∀ i, (zs ++ [1, 14, 27, 40]).getD i 0 < 256 := byte_append hz.byte (by intro i; rcases i with _ | _ | _ | _ | _ <;> simp)
  have hB3' : Below w.heap.size w w3 := hB2.trans ((((Below.refl _ w2).alloc (Nat.le_refl _) _).mono (show w.heap.size ≤ w2.heap.size from hB2.size)).trans (hB3.mono hb1.size))
  obtain ⟨a3, c3, rfl, hc3, hz3⟩ := hown3.bytTake 4 (by simp) (by decide) hby3
  have e4 : (zs ++ [1, 14, 27, 40]).length = zs.length + 4 := by simp
  rw [e4] at hc3
  have hmd := law_MadeN a3 (zs.length + 4) c3 4 ((zs ++ [1, 14, 27, 40]).take 4) w3 (by rw [show min (zs.length + 4) 4 = 4 by omega]; exact hz3) (by omega) hc3 (by decide)
  rw [show min (zs.length + 4) 4 = 4 by omega] at hmd
  have hml := madeTo_length ((zs ++ [1, 14, 27, 40]).take 4) 4
  have hmo := (madeTo_ok ((zs ++ [1, 14, 27, 40]).take 4) 4 (by decide)).1
  have hr := made_right ((zs ++ [1, 14, 27, 40]).take 4) 4 (by decide) (by decide)
  generalize madeTo ((zs ++ [1, 14, 27, 40]).take 4) 4 = l at *
  clear hz3 hown3 hby3
  rw [e4]
  refine hmd.mono ?_
  rintro e w4 ⟨v4, rfl, hv4, hb4⟩
  obtain ⟨ao, co, rfl, -, hco, hzo⟩ := OwnB.bytc hv4 (by omega) (made_byte hmo)
  rw [hml] at hzo hco ⊢
  have hB4 := hB3'.trans (hb4.mono hB3'.size)
  have hT4 := hT.below hT.pos hB4
  obtain ⟨b, off, rfl, hbb, hcs⟩ := hzo.at (by decide)
  have H52 : Hid (∀ i, i < 4 → l.getD i 0 < 52) := Lib.hid fun i hi => right_lt hr (by omega)
  have HR := Lib.hid hr
  have HML := Lib.hid hml
  have HCS := Lib.hid hcs
  clear hmd e4 hcs hr hmo hv4 hml
  obtain ⟨t1, ht1, ht1b⟩ : ∃ t1 : Nat, 5 + (n : Int) % 251 = (t1 : Int) ∧ 4 < t1 := ⟨5 + n % 251, by omega, by omega⟩
  obtain ⟨l1, hl1, hl1b⟩ : ∃ l1 : Nat, 4 + (n : Int) % 252 = (l1 : Int) ∧ 3 < l1 := ⟨4 + n % 252, by omega, by omega⟩
  obtain ⟨bad, hbad, hbad52, hbad256⟩ : ∃ bad : Nat, 52 + (n : Int) % 204 = (bad : Int) ∧ 52 ≤ bad ∧ bad < 256 := ⟨52 + n % 204, by omega, by omega, by omega⟩
  obtain ⟨m52, hm52, hm52b, hm64⟩ : ∃ m52 : Nat, 52 + (n : Int) % 12 = (m52 : Int) ∧ 52 ≤ m52 ∧ m52 < 64 := ⟨52 + n % 12, by omega, by omega, by omega⟩
  have HW1 : Hid (winnerV t1 l = (0, 2)) := Lib.hid (by unfold winnerV; rw [if_pos ht1b])
  have HS1 : Hid (seatV 0 l1 l = (0, 2)) := Lib.hid (by unfold seatV; rw [if_pos hl1b])
  have hw0 : (winnerV 0 l).2 = 0 := by unfold winnerV; rw [if_neg (by decide), if_pos HR.out]
  have HB1 : Hid (beatsV 0 l c = (false, 111)) := Lib.hid (by unfold beatsV; rw [if_pos hw0, if_pos HML.out])
  have hr3 := takeR HR.out 3 (by decide) (by rw [HML.out]; decide)
  have hl3 : (l.take 3).length = 3 := by rw [List.length_take, HML.out]; rfl
  have HB2 : Hid (beatsV 0 (l.take 3) bad = (false, 110)) := Lib.hid (by
    unfold beatsV
    rw [if_pos (by unfold winnerV; rw [if_neg (by decide), if_pos hr3]), if_neg (by omega), if_neg (by rintro ⟨h, _⟩; omega)])
  have HB3 : Hid (beatsV 4 (l.take 3) (l.getD (n % 3) 0) = (false, 110)) := Lib.hid (by
    have hm : l.getD (n % 3) 0 ∈ l.take 3 := by rw [← getD_take (Nat.mod_lt n (by decide : 0 < 3))]; exact getD_mem (by rw [hl3]; exact Nat.mod_lt _ (by decide))
    unfold beatsV
    rw [if_pos (by unfold winnerV; rw [if_neg (by decide), if_pos hr3]), if_neg (by omega), if_neg (by rintro ⟨_, h⟩; rw [List.contains_iff_mem.2 hm] at h; cases h)])
  have hbig : 4503599627370496 ≤ lor hand (shl1 m52) := by
    have h1 : shl1 m52 ≤ lor hand (shl1 m52) := Nat.right_le_or
    have h2 : 2 ^ 52 ≤ shl1 m52 := by rw [shl1_pow hm64]; exact Nat.pow_le_pow_right (by decide) hm52b
    exact Nat.le_trans h2 h1
  have HP1 : Hid (playableV (lor hand (shl1 m52)) (l.take 2) = (0, 2)) := Lib.hid (by unfold playableV; rw [if_pos hbig])
  have HP2 : Hid (playableV (lo52 hand) l = (0, 111)) := Lib.hid (by
    unfold playableV; rw [if_neg (Nat.not_le_of_lt (lo52_lt hand)), if_neg (by rw [HML.out]; decide), if_pos HR.out, if_pos HML.out])
  clear hw0 hr3 hl3 hbig
  have h3co : 3 ≤ co := by omega
  have h2co : 2 ≤ co := by omega
  have HTI := Lib.hid ht1
  have HLI := Lib.hid hl1
  have HBI := Lib.hid hbad
  clear ht1 hl1 hbad
  go_wp2_with fail
  rw [HTI.out]
  refine (trick_Winner t1 _ _ _ l _ hzo).mono ?_
  rw [HW1.out]
  rintro e w5 ⟨rfl, hb5⟩
  have hz5 := hzo.below (Nat.le_refl _) hb5
  have hB5 := hB4.trans (hb5.mono hB4.size)
  go_wp2_with fail
  rw [HLI.out]
  refine (trick_Seat 0 l1 _ _ _ l _ hz5).mono ?_
  rw [HS1.out]
  rintro e w6 ⟨rfl, hb6⟩
  have hz6 := hz5.below (Nat.le_refl _) hb6
  have hB6 := hB5.trans (hb6.mono hB5.size)
  clear hz5
  go_wp2_with fail
  refine (trick_Beats 0 c _ _ _ l _ hz6 hc).mono ?_
  rw [HB1.out]
  rintro e w7 ⟨rfl, hb7⟩
  have hz7 := hz6.below (Nat.le_refl _) hb7
  have hB7 := hB6.trans (hb7.mono hB6.size)
  clear hz6
  go_wp2_with fail
  rw [HBI.out]
  refine (trick_Beats 0 bad _ _ _ (l.take 3) _ (hz7.take 3 (by decide)) hbad256).mono ?_
  rw [HB2.out]
  rintro e w8 ⟨rfl, hb8⟩
  have hz8 := hz7.below (Nat.le_refl _) hb8
  have hB8 := hB7.trans (hb8.mono hB7.size)
  clear hz7
  have hn3 : n % 3 < 3 := Nat.mod_lt _ (by decide)
  have HCell : Hid (∀ wx, Byt wx (some ⟨b, off, none⟩) 4 l → ∀ i, i < 4 → wx.cell? ⟨b, off + i, none⟩ = some (.int .u8 ((l.getD i 0 : Nat) : Int))) := Lib.hid fun wx hx i hi => by
    obtain ⟨_, _, hbe, _, hcs⟩ := hx.at (by decide)
    injection hbe with hbe
    injection hbe with h1 h2
    subst h1; subst h2
    exact hcs i hi
  have hc3' := HCell.out w8 hz8 (n % 3) (by omega)
  have h523 := H52.out (n % 3) (by omega)
  have hBt := fun wx (hx : Byt wx (some ⟨b, off, none⟩) 4 l) => trick_Beats 4 (l.getD (n % 3) 0) (some ⟨b, off, none⟩) 3 co (l.take 3) wx (hx.take 3 (by decide)) (by omega)
  rw [HB3.out] at hBt
  have HBt := Lib.hid hBt
  clear hBt
  generalize l.getD (n % 3) 0 = c3v at *
  have hr0 := fun dd os => cell_regrown hc3' dd os
  have hq3 : (n : Int).tmod 3 = ((n % 3 : Nat) : Int) := by rw [Int.tmod_eq_emod_of_nonneg (by omega)]; omega
  generalize n % 3 = n3 at *
  have hn3I : ((n3 : Nat) : Int) < 4 := by omega
  have hn34 : n3 < 4 := by omega
  go_wp2_with fail
  refine wp_region_quiet_below (by kernel_rfl) (by kernel_rfl) ?_
  repeat (go_big_quiet_step ((exact Calls.regrown_of (HBt.out _ (hz8.below (Nat.le_refl _) (below_regrown _ _ _))))))
  refine wpQuiet_nil ?_
  rintro _ ⟨p, rfl⟩
  have hb9 := below_regrown w8 p.d p.os
  generalize grow (redrawn w8 p.d) p.os = w9 at *
  have hz9 := hz8.below (Nat.le_refl _) hb9
  have hB9 := hB8.trans (hb9.mono hB8.size)
  have hT9 := hT.below hT.pos hB9
  clear hr0 hq3 hc3' hz8 HBt
  go_wp2_with fail
  refine (trick_Playable (lor hand (shl1 m52)) _ _ _ (l.take 2) _ (hz9.take 2 (by decide)) (hh.lor (W64.shl1 m52)) hT9).mono ?_
  rw [HP1.out]
  rintro e w10 ⟨rfl, hb10⟩
  have hz10 := hz9.below (Nat.le_refl _) hb10
  have hB10 := hB9.trans (hb10.mono hB9.size)
  have hT10 := hT.below hT.pos hB10
  clear hz9
  go_wp2_with fail
  refine (trick_Playable (lo52 hand) _ _ _ l _ hz10 (lo52_w64 hand) hT10).mono ?_
  rw [HP2.out]
  rintro e w11 ⟨rfl, hb11⟩
  have hz11 := hz10.below (Nat.le_refl _) hb11
  have hB11 := hB10.trans (hb11.mono hB10.size)
  clear hz10 hm52
  go_wp2_with fail
  obtain ⟨x1, hx1⟩ : ∃ x1 : Nat, x1 = l.getD (n % 2) 0 := ⟨_, rfl⟩
  have hx1b : x1 < 256 := by have := H52.out (n % 2) (by omega); omega
  have HBy : Hid (∀ wx, Below w11.heap.size w11 wx → Byt wx (some ⟨b, off, none⟩) 4 l) := Lib.hid fun wx hbx => hz11.below (Nat.le_refl _) hbx
  have HC1 : Hid (∀ wx, Below w11.heap.size w11 wx → wx.cell? ⟨b, off + n % 2, none⟩ = some (.int .u8 (x1 : Int))) := Lib.hid fun wx hbx => by rw [hx1]; exact HCell.out wx (HBy.out wx hbx) (n % 2) (by omega)
  have HOI : Hid (∀ (j : Nat) (zs' : List Nat) (n' : Nat), ([.eq (.slice (some ⟨b, off, none⟩) 4 co), .eq (.slice (some ⟨b, off, none⟩) 2 co), .own (l.take 2) 9, .eq (.slice (some ⟨b, off, none⟩) 4 co), .eq (.int .u8 ((n : Nat) : Int)), .eq (.int .u8 ((n % 2 : Nat) : Int)), .eq (.pointer (some ⟨b, off + n % 2, none⟩)), .eq (.int .u8 ((x1 : Nat) : Int)), .one x1, .own (l.take 2 ++ [x1]) 1000, .eq (.slice (some ⟨b, off, none⟩) 4 co), .eq (.slice (some ⟨b, off, none⟩) 2 co), .own (l.take 2) 15, .eq (.int .u8 ((bad : Nat) : Int)), .one bad, .own (l.take 2 ++ [bad]) 1000, .eq (.slice (some ⟨b, off, none⟩) 4 co), .own l 21, .eq (.int .u8 ((c : Nat) : Int)), .eq (.int .u8 ((c % 52 : Nat) : Int)), .one (c % 52), .own (l ++ [c % 52]) 1000, .three, .eq (.int .i64 3), .eq (.int .i64 0)] : List SpecG)[j]? = some (.own zs' n') → (j = 2 ∧ n' = 9) ∨ (j = 9 ∧ n' = 1000) ∨ (j = 12 ∧ n' = 15) ∨ (j = 15 ∧ n' = 1000) ∨ (j = 17 ∧ n' = 21) ∨ (j = 21 ∧ n' = 1000)) := Lib.hid (by
    intro j zs' n' h
    rcases j with _ | _ | _ | _ | _ | _ | _ | _ | _ | _ | _ | _ | _ | _ | _ | _ | _ | _ | _ | _ | _ | _ | _ | _ | _ | _
    all_goals (simp at h; try (simp [← h.2])))
  have HTH : Hid (∀ j : Nat, ([.eq (.slice (some ⟨b, off, none⟩) 4 co), .eq (.slice (some ⟨b, off, none⟩) 2 co), .own (l.take 2) 9, .eq (.slice (some ⟨b, off, none⟩) 4 co), .eq (.int .u8 ((n : Nat) : Int)), .eq (.int .u8 ((n % 2 : Nat) : Int)), .eq (.pointer (some ⟨b, off + n % 2, none⟩)), .eq (.int .u8 ((x1 : Nat) : Int)), .one x1, .own (l.take 2 ++ [x1]) 1000, .eq (.slice (some ⟨b, off, none⟩) 4 co), .eq (.slice (some ⟨b, off, none⟩) 2 co), .own (l.take 2) 15, .eq (.int .u8 ((bad : Nat) : Int)), .one bad, .own (l.take 2 ++ [bad]) 1000, .eq (.slice (some ⟨b, off, none⟩) 4 co), .own l 21, .eq (.int .u8 ((c : Nat) : Int)), .eq (.int .u8 ((c % 52 : Nat) : Int)), .one (c % 52), .own (l ++ [c % 52]) 1000, .three, .eq (.int .i64 3), .eq (.int .i64 0)] : List SpecG)[j]? = some .three → j = 22) := Lib.hid (by
    intro j h
    rcases j with _ | _ | _ | _ | _ | _ | _ | _ | _ | _ | _ | _ | _ | _ | _ | _ | _ | _ | _ | _ | _ | _ | _ | _ | _ | _
    all_goals (first | rfl | (simp at h; done)))
  refine wp_region_reliesG (FG w11 [.eq (.slice (some ⟨b, off, none⟩) 4 co), .eq (.slice (some ⟨b, off, none⟩) 2 co), .own (l.take 2) 9, .eq (.slice (some ⟨b, off, none⟩) 4 co), .eq (.int .u8 ((n : Nat) : Int)), .eq (.int .u8 ((n % 2 : Nat) : Int)), .eq (.pointer (some ⟨b, off + n % 2, none⟩)), .eq (.int .u8 ((x1 : Nat) : Int)), .one x1, .own (l.take 2 ++ [x1]) 1000, .eq (.slice (some ⟨b, off, none⟩) 4 co), .eq (.slice (some ⟨b, off, none⟩) 2 co), .own (l.take 2) 15, .eq (.int .u8 ((bad : Nat) : Int)), .one bad, .own (l.take 2 ++ [bad]) 1000, .eq (.slice (some ⟨b, off, none⟩) 4 co), .own l 21, .eq (.int .u8 ((c : Nat) : Int)), .eq (.int .u8 ((c % 52 : Nat) : Int)), .one (c % 52), .own (l ++ [c % 52]) 1000, .three, .eq (.int .i64 3), .eq (.int .i64 0)]) (by kernel_rfl) (by kernel_rfl) (by kernel_rfl) (by kernel_rfl) ⟨(Below.refl _ _).drew, fun _ _ _ _ h => (by cases h), ⟨fun _ _ h => (by cases h), fun _ _ h => (by cases h), fun _ _ h => (by cases h)⟩, rfl⟩ ?obls ?fini
  case obls =>
    refine ⟨?_, ?_, ?_, ?_, ?_, ?_, ?_, ?_, ?_, ?_, ?_, ?_, ?_, ?_, ?_, ?_, ?_, ?_, ?_, ?_, ?_, ?_, ?_, ?_, ?_, trivial⟩
    · -- 0
      intro ρ f w' hF hfi hw hcl hf
      have f9 : ρ (.tmp 9) = .slice (some ⟨b, off, none⟩) 4 co := hf.1 9 (by simp [Op.operands])
      refine ok_value (v := .slice (some ⟨b, off, none⟩) 4 co) (w' := w') ?_ (hF.step 0 (.eq (.slice (some ⟨b, off, none⟩) 4 co)) _ rfl (Below.refl _ _) rfl (by decide))
      simp [execOp, f9]
    · -- 1
      intro ρ f w' hF hfi hw hcl hf
      have f144 : ρ (.tmp 144) = .slice (some ⟨b, off, none⟩) 4 co := hF.each 0 (.eq (.slice (some ⟨b, off, none⟩) 4 co)) _ rfl (hf.1 144 (by simp [Op.operands]))
      refine ok_value (v := .slice (some ⟨b, off, none⟩) 2 co) (w' := w') ?_ (hF.step 1 (.eq (.slice (some ⟨b, off, none⟩) 2 co)) _ rfl (Below.refl _ _) rfl (by decide))
      simp [execOp, f144, hf.2.1, go_sem]
      intro h; omega
    · -- 2
      intro ρ f w' hF hfi hw hcl hf
      have f145 : ρ (.tmp 145) = .slice (some ⟨b, off, none⟩) 2 co := hF.each 1 (.eq (.slice (some ⟨b, off, none⟩) 2 co)) _ rfl (hf.1 145 (by simp [Op.operands, Call.operands]))
      exact ok_call (f := 22) (args := #[.slice (some ⟨b, off, none⟩) 2 co]) (by simp [execOp, f145, hf.2.2.2, go_sem]) ((slices_clone _ _ _ (l.take 2) _ ((HBy.out w' hF.below).take 2 (by decide)) (fun h => by cases h)).mono fun e w2 ⟨v, he, hv, hb⟩ => ⟨v, he, hF.clone 2 (l.take 2) 9 v rfl hb hv (own_ne_nil hv (by rw [List.length_take, HML.out]; decide)) (by decide) (fun _ => ⟨_, 1000, rfl, hF.far⟩) (fun _ => ⟨_, 1000, rfl, hF.far⟩)⟩)
    · -- 3
      intro ρ f w' hF hfi hw hcl hf
      have f9 : ρ (.tmp 9) = .slice (some ⟨b, off, none⟩) 4 co := hf.1 9 (by simp [Op.operands])
      refine ok_value (v := .slice (some ⟨b, off, none⟩) 4 co) (w' := w') ?_ (hF.step 3 (.eq (.slice (some ⟨b, off, none⟩) 4 co)) _ rfl (Below.refl _ _) rfl (by decide))
      simp [execOp, f9]
    · -- 4
      intro ρ f w' hF hfi hw hcl hf
      have f1 : ρ (.tmp 1) = .int .u8 ((n : Nat) : Int) := hf.1 1 (by simp [Op.operands])
      refine ok_value (v := .int .u8 ((n : Nat) : Int)) (w' := w') ?_ (hF.step 4 (.eq (.int .u8 ((n : Nat) : Int))) _ rfl (Below.refl _ _) rfl (by decide))
      simp [execOp, f1]
    · -- 5
      intro ρ f w' hF hfi hw hcl hf
      have f148 : ρ (.tmp 148) = .int .u8 ((n : Nat) : Int) := hF.each 4 (.eq (.int .u8 ((n : Nat) : Int))) _ rfl (hf.1 148 (by simp [Op.operands]))
      refine ok_value (v := .int .u8 ((n % 2 : Nat) : Int)) (w' := w') ?_ (hF.step 5 (.eq (.int .u8 ((n % 2 : Nat) : Int))) _ rfl (Below.refl _ _) rfl (by decide))
      simp [execOp, f148, hf.2.1, go_sem]
      exact Int.tmod_eq_emod_of_nonneg (by omega)
    · -- 6
      intro ρ f w' hF hfi hw hcl hf
      have f147 : ρ (.tmp 147) = .slice (some ⟨b, off, none⟩) 4 co := hF.each 3 (.eq (.slice (some ⟨b, off, none⟩) 4 co)) _ rfl (hf.1 147 (by simp [Op.operands]))
      have f149 : ρ (.tmp 149) = .int .u8 ((n % 2 : Nat) : Int) := hF.each 5 (.eq (.int .u8 ((n % 2 : Nat) : Int))) _ rfl (hf.1 149 (by simp [Op.operands]))
      refine ok_value (v := .pointer (some ⟨b, off + n % 2, none⟩)) (w' := w') ?_ (hF.step 6 (.eq (.pointer (some ⟨b, off + n % 2, none⟩))) _ rfl (Below.refl _ _) rfl (by decide))
      simp [execOp, f147, f149, go_sem]
      rw [if_pos (by omega), show ((n : Int) % 2).toNat = n % 2 by omega]
    · -- 7
      intro ρ f w' hF hfi hw hcl hf
      have f150 : ρ (.tmp 150) = .pointer (some ⟨b, off + n % 2, none⟩) := hF.each 6 (.eq (.pointer (some ⟨b, off + n % 2, none⟩))) _ rfl (hf.1 150 (by simp [Op.operands]))
      refine ok_value (v := .int .u8 ((x1 : Nat) : Int)) (w' := w') ?_ (hF.step 7 (.eq (.int .u8 ((x1 : Nat) : Int))) _ rfl (Below.refl _ _) rfl (by decide))
      simp [execOp, f150, go_sem, HC1.out w' hF.below]
    · -- 8
      intro ρ f w' hF hfi hw hcl hf
      have f151 : ρ (.tmp 151) = .int .u8 ((x1 : Nat) : Int) := hF.each 7 (.eq (.int .u8 ((x1 : Nat) : Int))) _ rfl (hf.1 151 (by simp [Op.operands]))
      exact ok_value (v := .slice (some ⟨w'.heap.size, 0, none⟩) 1 1) (w' := w'.alloc (.cells #[.int .u8 ((x1 : Nat) : Int)] 5)) (by simp [execOp, f151, go_sem]) (hF.step 8 (.one x1) _ rfl ((Below.refl _ _).alloc (Nat.le_refl _) _) ⟨w'.heap.size, rfl, heap_alloc_new _ _⟩ (by decide))
    · -- 9
      intro ρ f w' hF hfi hw hcl hf
      have hu := hf.1 146 (by simp [Op.operands, Call.operands])
      obtain ⟨hou, hun⟩ := hF.each 2 (.own (l.take 2) 9) _ rfl hu hfi
      obtain ⟨g1, fq, hq⟩ := OneB.byt (hF.each 8 (.one x1) _ rfl (hf.1 152 (by simp [Op.operands, Call.operands]))) hx1b
      have n12 := none_of hcl hfi (j := 12) (by decide)
      have n15 := none_of hcl n12 (j := 15) (by decide)
      have n17 := none_of hcl n15 (j := 17) (by decide)
      have n21 := none_of hcl n17 (j := 21) (by decide)
      have n22 := none_of hcl hfi (j := 22) (by decide)
      refine ok_append (.tmp 146) (.tmp 152) rfl w11.heap.size _ (l.take 2) [x1] rfl hou ⟨g1, 0, none⟩ 1 1 fq hq (by have := HML.out; simp; omega) hF.below.size (by decide) fun v w2 hov hg hvn => hF.append 9 2 (l.take 2) [x1] 1000 _ v rfl rfl hu hfi (fun _ _ => n22) HTH.out hg hov hvn (by rw [List.length_take, HML.out]; decide) ?_ (by decide) (.inl ⟨n12, n17⟩)
      intro j zs' n' x hjp hj hx hn'
      obtain ⟨rfl, rfl⟩ | ⟨rfl, rfl⟩ | ⟨rfl, rfl⟩ | ⟨rfl, rfl⟩ | ⟨rfl, rfl⟩ | ⟨rfl, rfl⟩ := HOI.out j zs' n' hj
      · exact absurd rfl hjp
      · rw [hfi] at hx; cases hx
      · rw [n12] at hx; cases hx
      · rw [n15] at hx; cases hx
      · rw [n17] at hx; cases hx
      · rw [n21] at hx; cases hx
    · -- 10
      intro ρ f w' hF hfi hw hcl hf
      have f9 : ρ (.tmp 9) = .slice (some ⟨b, off, none⟩) 4 co := hf.1 9 (by simp [Op.operands])
      refine ok_value (v := .slice (some ⟨b, off, none⟩) 4 co) (w' := w') ?_ (hF.step 10 (.eq (.slice (some ⟨b, off, none⟩) 4 co)) _ rfl (Below.refl _ _) rfl (by decide))
      simp [execOp, f9]
    · -- 11
      intro ρ f w' hF hfi hw hcl hf
      have f154 : ρ (.tmp 154) = .slice (some ⟨b, off, none⟩) 4 co := hF.each 10 (.eq (.slice (some ⟨b, off, none⟩) 4 co)) _ rfl (hf.1 154 (by simp [Op.operands]))
      refine ok_value (v := .slice (some ⟨b, off, none⟩) 2 co) (w' := w') ?_ (hF.step 11 (.eq (.slice (some ⟨b, off, none⟩) 2 co)) _ rfl (Below.refl _ _) rfl (by decide))
      simp [execOp, f154, hf.2.1, go_sem]
      intro h; omega
    · -- 12
      intro ρ f w' hF hfi hw hcl hf
      have f155 : ρ (.tmp 155) = .slice (some ⟨b, off, none⟩) 2 co := hF.each 11 (.eq (.slice (some ⟨b, off, none⟩) 2 co)) _ rfl (hf.1 155 (by simp [Op.operands, Call.operands]))
      exact ok_call (f := 22) (args := #[.slice (some ⟨b, off, none⟩) 2 co]) (by simp [execOp, f155, hf.2.2.2, go_sem]) ((slices_clone _ _ _ (l.take 2) _ ((HBy.out w' hF.below).take 2 (by decide)) (fun h => by cases h)).mono fun e w2 ⟨v, he, hv, hb⟩ => ⟨v, he, hF.clone 12 (l.take 2) 15 v rfl hb hv (own_ne_nil hv (by rw [List.length_take, HML.out]; decide)) (by decide) (fun _ => ⟨_, 1000, rfl, hF.far⟩) (fun _ => ⟨_, 1000, rfl, hF.far⟩)⟩)
    · -- 13
      intro ρ f w' hF hfi hw hcl hf
      have f10 : ρ (.tmp 10) = .int .u8 ((bad : Nat) : Int) := hf.1 10 (by simp [Op.operands])
      refine ok_value (v := .int .u8 ((bad : Nat) : Int)) (w' := w') ?_ (hF.step 13 (.eq (.int .u8 ((bad : Nat) : Int))) _ rfl (Below.refl _ _) rfl (by decide))
      simp [execOp, f10]
    · -- 14
      intro ρ f w' hF hfi hw hcl hf
      have f157 : ρ (.tmp 157) = .int .u8 ((bad : Nat) : Int) := hF.each 13 (.eq (.int .u8 ((bad : Nat) : Int))) _ rfl (hf.1 157 (by simp [Op.operands]))
      exact ok_value (v := .slice (some ⟨w'.heap.size, 0, none⟩) 1 1) (w' := w'.alloc (.cells #[.int .u8 ((bad : Nat) : Int)] 5)) (by simp [execOp, f157, go_sem]) (hF.step 14 (.one bad) _ rfl ((Below.refl _ _).alloc (Nat.le_refl _) _) ⟨w'.heap.size, rfl, heap_alloc_new _ _⟩ (by decide))
    · -- 15
      intro ρ f w' hF hfi hw hcl hf
      have hu := hf.1 156 (by simp [Op.operands, Call.operands])
      obtain ⟨hou, hun⟩ := hF.each 12 (.own (l.take 2) 15) _ rfl hu hfi
      obtain ⟨g1, fq, hq⟩ := OneB.byt (hF.each 14 (.one bad) _ rfl (hf.1 158 (by simp [Op.operands, Call.operands]))) hbad256
      have s12 := hw 12 (by decide)
      have s9 := hcl 12 s12 9 (by decide)
      have n17 := none_of hcl hfi (j := 17) (by decide)
      have n21 := none_of hcl n17 (j := 21) (by decide)
      have n22 := none_of hcl hfi (j := 22) (by decide)
      refine ok_append (.tmp 156) (.tmp 158) rfl w11.heap.size _ (l.take 2) [bad] rfl hou ⟨g1, 0, none⟩ 1 1 fq hq (by have := HML.out; simp; omega) hF.below.size (by decide) fun v w2 hov hg hvn => hF.append 15 12 (l.take 2) [bad] 1000 _ v rfl rfl hu hfi (fun _ _ => n22) HTH.out hg hov hvn (by rw [List.length_take, HML.out]; decide) ?_ (by decide) (.inr (.inl ⟨by decide, n17⟩))
      intro j zs' n' x hjp hj hx hn'
      obtain ⟨rfl, rfl⟩ | ⟨rfl, rfl⟩ | ⟨rfl, rfl⟩ | ⟨rfl, rfl⟩ | ⟨rfl, rfl⟩ | ⟨rfl, rfl⟩ := HOI.out j zs' n' hj
      · rw [hn'] at s9; cases s9
      · exact hF.apart.1 x _ hx hu
      · exact absurd rfl hjp
      · rw [hfi] at hx; cases hx
      · rw [n17] at hx; cases hx
      · rw [n21] at hx; cases hx
    · -- 16
      intro ρ f w' hF hfi hw hcl hf
      have f9 : ρ (.tmp 9) = .slice (some ⟨b, off, none⟩) 4 co := hf.1 9 (by simp [Op.operands])
      refine ok_value (v := .slice (some ⟨b, off, none⟩) 4 co) (w' := w') ?_ (hF.step 16 (.eq (.slice (some ⟨b, off, none⟩) 4 co)) _ rfl (Below.refl _ _) rfl (by decide))
      simp [execOp, f9]
    · -- 17
      intro ρ f w' hF hfi hw hcl hf
      have f160 : ρ (.tmp 160) = .slice (some ⟨b, off, none⟩) 4 co := hF.each 16 (.eq (.slice (some ⟨b, off, none⟩) 4 co)) _ rfl (hf.1 160 (by simp [Op.operands, Call.operands]))
      exact ok_call (f := 22) (args := #[.slice (some ⟨b, off, none⟩) 4 co]) (by simp [execOp, f160, hf.2.2.2, go_sem]) ((slices_clone _ _ _ l _ (HBy.out w' hF.below) (fun h => by cases h)).mono fun e w2 ⟨v, he, hv, hb⟩ => ⟨v, he, hF.clone 17 l 21 v rfl hb hv (own_ne_nil hv (by rw [HML.out]; decide)) (by decide) (fun _ => ⟨_, 1000, rfl, hF.far⟩) (fun _ => ⟨_, 1000, rfl, hF.far⟩)⟩)
    · -- 18
      intro ρ f w' hF hfi hw hcl hf
      have f2 : ρ (.tmp 2) = .int .u8 ((c : Nat) : Int) := hf.1 2 (by simp [Op.operands])
      refine ok_value (v := .int .u8 ((c : Nat) : Int)) (w' := w') ?_ (hF.step 18 (.eq (.int .u8 ((c : Nat) : Int))) _ rfl (Below.refl _ _) rfl (by decide))
      simp [execOp, f2]
    · -- 19
      intro ρ f w' hF hfi hw hcl hf
      have f162 : ρ (.tmp 162) = .int .u8 ((c : Nat) : Int) := hF.each 18 (.eq (.int .u8 ((c : Nat) : Int))) _ rfl (hf.1 162 (by simp [Op.operands]))
      refine ok_value (v := .int .u8 ((c % 52 : Nat) : Int)) (w' := w') ?_ (hF.step 19 (.eq (.int .u8 ((c % 52 : Nat) : Int))) _ rfl (Below.refl _ _) rfl (by decide))
      simp [execOp, f162, hf.2.1, go_sem]
      exact Int.tmod_eq_emod_of_nonneg (by omega)
    · -- 20
      intro ρ f w' hF hfi hw hcl hf
      have f163 : ρ (.tmp 163) = .int .u8 ((c % 52 : Nat) : Int) := hF.each 19 (.eq (.int .u8 ((c % 52 : Nat) : Int))) _ rfl (hf.1 163 (by simp [Op.operands]))
      exact ok_value (v := .slice (some ⟨w'.heap.size, 0, none⟩) 1 1) (w' := w'.alloc (.cells #[.int .u8 (((c % 52) : Nat) : Int)] 5)) (by simp [execOp, f163, go_sem]) (hF.step 20 (.one (c % 52)) _ rfl ((Below.refl _ _).alloc (Nat.le_refl _) _) ⟨w'.heap.size, rfl, heap_alloc_new _ _⟩ (by decide))
    · -- 21
      intro ρ f w' hF hfi hw hcl hf
      have hu := hf.1 161 (by simp [Op.operands, Call.operands])
      obtain ⟨hou, hun⟩ := hF.each 17 (.own l 21) _ rfl hu hfi
      obtain ⟨g1, fq, hq⟩ := OneB.byt (hF.each 20 (.one (c % 52)) _ rfl (hf.1 164 (by simp [Op.operands, Call.operands]))) (by omega)
      have s17 := hw 17 (by decide)
      have s15 := hcl 17 s17 15 (by decide)
      have s12 := hcl 15 s15 12 (by decide)
      have s9 := hcl 12 s12 9 (by decide)
      have n22 := none_of hcl hfi (j := 22) (by decide)
      refine ok_append (.tmp 161) (.tmp 164) rfl w11.heap.size _ l [(c % 52)] rfl hou ⟨g1, 0, none⟩ 1 1 fq hq (by have := HML.out; simp; omega) hF.below.size (by decide) fun v w2 hov hg hvn => hF.append 21 17 l [(c % 52)] 1000 _ v rfl rfl hu hfi (fun _ _ => n22) HTH.out hg hov hvn (by rw [HML.out]; decide) ?_ (by decide) (.inr (.inr rfl))
      intro j zs' n' x hjp hj hx hn'
      obtain ⟨rfl, rfl⟩ | ⟨rfl, rfl⟩ | ⟨rfl, rfl⟩ | ⟨rfl, rfl⟩ | ⟨rfl, rfl⟩ | ⟨rfl, rfl⟩ := HOI.out j zs' n' hj
      · rw [hn'] at s9; cases s9
      · exact hF.apart.2.1 x _ hx hu
      · rw [hn'] at s15; cases s15
      · exact hF.apart.2.2 x _ hx hu
      · exact absurd rfl hjp
      · rw [hfi] at hx; cases hx
    · -- 22
      intro ρ f w' hF hfi hw hcl hf
      have h9 := hf.1 153 (by simp [Op.operands])
      have h15 := hf.1 159 (by simp [Op.operands])
      have h21 := hf.1 165 (by simp [Op.operands])
      obtain ⟨a9, n9, c9, e9⟩ := own_shape (hF.each 9 (.own (l.take 2 ++ [x1]) 1000) _ rfl h9 hF.far).1
      obtain ⟨a15, n15, c15, e15⟩ := own_shape (hF.each 15 (.own (l.take 2 ++ [bad]) 1000) _ rfl h15 hF.far).1
      obtain ⟨a21, n21, c21, e21⟩ := own_shape (hF.each 21 (.own (l ++ [c % 52]) 1000) _ rfl h21 hF.far).1
      refine ok_value (v := .slice (some ⟨w'.heap.size, 0, none⟩) 3 3) (w' := w'.alloc (.cells #[ρ (.tmp 153), ρ (.tmp 159), ρ (.tmp 165)] 23)) (by simp [execOp, e9, e15, e21, go_sem]) (hF.step 22 .three _ rfl ((Below.refl _ _).alloc (Nat.le_refl _) _) ?_ (by decide))
      intro x y z hx hy hz
      rw [Done.set_other _ _ (by decide)] at hx hy hz
      rw [h9] at hx; rw [h15] at hy; rw [h21] at hz
      injection hx with hx; injection hy with hy; injection hz with hz
      subst hx; subst hy; subst hz
      exact ⟨w'.heap.size, rfl, heap_alloc_new _ _⟩
    · -- 23
      intro ρ f w' hF hfi hw hcl hf
      have s22 := hw 22 (by decide)
      obtain ⟨x9, h9⟩ := Option.isSome_iff_exists.1 (hcl 22 s22 9 (by decide))
      obtain ⟨x15, h15⟩ := Option.isSome_iff_exists.1 (hcl 22 s22 15 (by decide))
      obtain ⟨x21, h21⟩ := Option.isSome_iff_exists.1 (hcl 22 s22 21 (by decide))
      obtain ⟨g1, f166, _⟩ := hF.each 22 .three _ rfl (hf.1 166 (by simp [Op.operands, Call.operands])) x9 x15 x21 h9 h15 h21
      refine ok_value (v := .int .i64 3) (w' := w') ?_ (hF.step 23 (.eq (.int .i64 3)) _ rfl (Below.refl _ _) rfl (by decide))
      simp [f166, go_sem]
    · -- 24
      intro ρ f w' hF hfi hw hcl hf
      refine ok_value (v := .int .i64 0) (w' := w') ?_ (hF.step 24 (.eq (.int .i64 0)) _ rfl (Below.refl _ _) rfl (by decide))
      simp [execOp, hf.2.1]
  case fini =>
    intro vs w12 hlen hF
    have hl0 : vs.length = 25 := hlen
    clear hlen
    obtain ⟨v0, t0, rfl, hl1⟩ := uncons hl0
    clear hl0
    obtain ⟨v1, t1, rfl, hl2⟩ := uncons hl1
    clear hl1
    obtain ⟨v2, t2, rfl, hl3⟩ := uncons hl2
    clear hl2
    obtain ⟨v3, t3, rfl, hl4⟩ := uncons hl3
    clear hl3
    obtain ⟨v4, t4, rfl, hl5⟩ := uncons hl4
    clear hl4
    obtain ⟨v5, t5, rfl, hl6⟩ := uncons hl5
    clear hl5
    obtain ⟨v6, t6, rfl, hl7⟩ := uncons hl6
    clear hl6
    obtain ⟨v7, t7, rfl, hl8⟩ := uncons hl7
    clear hl7
    obtain ⟨v8, t8, rfl, hl9⟩ := uncons hl8
    clear hl8
    obtain ⟨v9, t9, rfl, hl10⟩ := uncons hl9
    clear hl9
    obtain ⟨v10, t10, rfl, hl11⟩ := uncons hl10
    clear hl10
    obtain ⟨v11, t11, rfl, hl12⟩ := uncons hl11
    clear hl11
    obtain ⟨v12, t12, rfl, hl13⟩ := uncons hl12
    clear hl12
    obtain ⟨v13, t13, rfl, hl14⟩ := uncons hl13
    clear hl13
    obtain ⟨v14, t14, rfl, hl15⟩ := uncons hl14
    clear hl14
    obtain ⟨v15, t15, rfl, hl16⟩ := uncons hl15
    clear hl15
    obtain ⟨v16, t16, rfl, hl17⟩ := uncons hl16
    clear hl16
    obtain ⟨v17, t17, rfl, hl18⟩ := uncons hl17
    clear hl17
    obtain ⟨v18, t18, rfl, hl19⟩ := uncons hl18
    clear hl18
    obtain ⟨v19, t19, rfl, hl20⟩ := uncons hl19
    clear hl19
    obtain ⟨v20, t20, rfl, hl21⟩ := uncons hl20
    clear hl20
    obtain ⟨v21, t21, rfl, hl22⟩ := uncons hl21
    clear hl21
    obtain ⟨v22, t22, rfl, hl23⟩ := uncons hl22
    clear hl22
    obtain ⟨v23, t23, rfl, hl24⟩ := uncons hl23
    clear hl23
    obtain ⟨v24, t24, rfl, hl25⟩ := uncons hl24
    clear hl24
    obtain rfl := List.eq_nil_of_length_eq_zero hl25
    clear hl25
    have e23 : v23 = .int .i64 3 := hF.each 23 (.eq (.int .i64 3)) v23 rfl rfl
    have e24 : v24 = .int .i64 0 := hF.each 24 (.eq (.int .i64 0)) v24 rfl rfl
    obtain ⟨ho9, -⟩ := hF.each 9 (.own (l.take 2 ++ [x1]) 1000) v9 rfl rfl rfl
    obtain ⟨ho15, -⟩ := hF.each 15 (.own (l.take 2 ++ [bad]) 1000) v15 rfl rfl rfl
    obtain ⟨ho21, -⟩ := hF.each 21 (.own (l ++ [c % 52]) 1000) v21 rfl rfl rfl
    obtain ⟨g, e22, hgb⟩ := hF.each 22 .three v22 rfl rfl v9 v15 v21 rfl rfl rfl
    have hB12 := hF.below
    clear hF
    obtain ⟨hf1, hf2, hf3⟩ := own_map_right HML.out n bad c hbad52
    rw [← hx1] at hf1
    have hb52 : ∀ i, l.getD i 0 < 256 := hz11.byte
    have hbt2 : ∀ i, (l.take 2).getD i 0 < 256 := (hz11.take 2 (by decide)).byte
    have hby1 : ∀ i, (l.take 2 ++ [x1]).getD i 0 < 256 := byte_append hbt2 (by intro i; rcases i with _ | _ <;> simp; exact hx1b)
    have hby2 : ∀ i, (l.take 2 ++ [bad]).getD i 0 < 256 := byte_append hbt2 (by intro i; rcases i with _ | _ <;> simp; exact hbad256)
    have hby3 : ∀ i, (l ++ [c % 52]).getD i 0 < 256 := byte_append hb52 (by intro i; rcases i with _ | _ <;> simp; omega)
    have hn1 : (l.take 2 ++ [x1]).length = 3 := by rw [List.length_append, List.length_take, HML.out]; rfl
    have hn2 : (l.take 2 ++ [bad]).length = 3 := by rw [List.length_append, List.length_take, HML.out]; rfl
    have hn3' : (l ++ [c % 52]).length = 5 := by rw [List.length_append, HML.out]; rfl
    have HQ0 := Lib.hid (wrong_vals _ (lo52 hand) hf1 (by omega) (lo52_lt hand))
    have HQ1 := Lib.hid (wrong_vals _ (lo52 hand) hf2 (by omega) (lo52_lt hand))
    have HQ2 := Lib.hid (wrong_vals _ (lo52 hand) hf3 (by omega) (lo52_lt hand))
    have HF0 := Lib.hid hf1
    have HF1 := Lib.hid hf2
    have HF2 := Lib.hid hf3
    obtain ⟨a9, c9, r9, -, hzs9⟩ := ho9.byt (by omega) hby1
    obtain ⟨a15, c15, r15, -, hzs15⟩ := ho15.byt (by omega) hby2
    obtain ⟨a21, c21, r21, -, hzs21⟩ := ho21.byt (by omega) hby3
    rw [hn1] at r9 hzs9
    rw [hn2] at r15 hzs15
    rw [hn3'] at r21 hzs21
    clear hf1 hf2 hf3 hby1 hby2 hby3 hb52 hbt2 hn1 hn2 hn3' ho9 ho15 ho21 hx1
    generalize l.take 2 ++ [x1] = R1 at *
    generalize l.take 2 ++ [bad] = R2 at *
    generalize l ++ [c % 52] = R3 at *
    have hB12w := hB11.trans (hB12.mono hB11.size)
    clear HOI HTH HC1 HBy HCell H52 HCS HR
    subst e22; subst e23; subst e24; subst r9; subst r15; subst r21
    simp only [putAll, List.zip_cons_cons, List.zip_nil_right, List.foldl_cons, List.foldl_nil]
    simp only [Act.put, List.setIfInBounds_toArray, List.set_cons_succ, List.set_cons_zero]
    go_wp2_with fail
    have hgl : g < w12.heap.size := (Array.getElem?_eq_some_iff.1 hgb).1
    go_loopg [168] 3 (fun gk s168 wr => ∃ k : Nat, k ≤ 3 ∧ gk = 3 - k ∧ s168 = .int .i64 (k : Int) ∧ Below w12.heap.size w12 wr)
    case atStart => exact ⟨0, by decide, rfl, rfl, Below.refl _ _⟩
    case round =>
      obtain ⟨k, hk, rfl, rfl, hBr⟩ := hrel
      by_cases hlt : k < 3
      · have hgr : wr.heap[g]? = some (.cells #[.slice a9 3 c9, .slice a15 3 c15, .slice a21 5 c21] 23 (0, 0)) := (hBr.block g hgl).trans hgb
        have hcells : wr.cell? ⟨g, 0, none⟩ = some (.slice a9 3 c9) ∧ wr.cell? ⟨g, 1, none⟩ = some (.slice a15 3 c15) ∧ wr.cell? ⟨g, 2, none⟩ = some (.slice a21 5 c21) := by
          simp [World.cell?, hgr]
        clear hgr
        obtain rfl | rfl | rfl : k = 0 ∨ k = 1 ∨ k = 2 := by omega
        · have hck := hcells.1
          have hzk := hzs9.below (Nat.le_refl _) hBr
          obtain ⟨q1, q2, q3⟩ := HQ0.out
          have Q1 := Lib.hid q1
          have Q2 := Lib.hid q2
          have Q3 := Lib.hid q3
          clear q1 q2 q3
          go_wp2_with fail
          refine (trick_Winner 4 _ _ _ R1 _ hzk).mono ?_
          rw [Q1.out]
          rintro e w13 ⟨rfl, hb13⟩
          have hz13 := hzk.below (Nat.le_refl _) hb13
          have hB13 := hBr.trans (hb13.mono hBr.size)
          have hBw13 := hB12w.trans (hB13.mono hB12w.size)
          have hT13 := hT.below hT.pos hBw13
          go_wp2_with fail
          refine (trick_Winners 4 (lo52 hand) _ _ _ R1 _ hz13 (lo52_w64 hand) hT13).mono ?_
          rw [Q2.out]
          rintro e w14 ⟨rfl, hb14⟩
          have hz14 := hz13.below (Nat.le_refl _) hb14
          have hB14 := hB13.trans (hb14.mono hB13.size)
          have hBw14 := hB12w.trans (hB14.mono hB12w.size)
          have hT14 := hT.below hT.pos hBw14
          clear hz13 hT13
          go_wp2_with fail
          refine (trick_Cover 4 (lo52 hand) _ _ _ R1 _ hz14 (lo52_w64 hand) hT14).mono ?_
          rw [Q3.out]
          rintro e w15 ⟨rfl, hb15⟩
          have hz15 := hz14.below (Nat.le_refl _) hb15
          have hB15 := hB14.trans (hb15.mono hB14.size)
          clear hz14 hT14
          go_wp2_with (go_at_call 23; refine (trick_right _ _ _ R1 _ hz15).mono ?_; rw [HF0.out]; rintro e w' ⟨rfl, rfl⟩)
          go_roundg (3 - (0 + 1))
          case rel => exact ⟨1, by decide, rfl, rfl, hB15⟩
          case measure => decide
        · have hck := hcells.2.1
          have hzk := hzs15.below (Nat.le_refl _) hBr
          obtain ⟨q1, q2, q3⟩ := HQ1.out
          have Q1 := Lib.hid q1
          have Q2 := Lib.hid q2
          have Q3 := Lib.hid q3
          clear q1 q2 q3
          go_wp2_with fail
          refine (trick_Winner 4 _ _ _ R2 _ hzk).mono ?_
          rw [Q1.out]
          rintro e w13 ⟨rfl, hb13⟩
          have hz13 := hzk.below (Nat.le_refl _) hb13
          have hB13 := hBr.trans (hb13.mono hBr.size)
          have hBw13 := hB12w.trans (hB13.mono hB12w.size)
          have hT13 := hT.below hT.pos hBw13
          go_wp2_with fail
          refine (trick_Winners 4 (lo52 hand) _ _ _ R2 _ hz13 (lo52_w64 hand) hT13).mono ?_
          rw [Q2.out]
          rintro e w14 ⟨rfl, hb14⟩
          have hz14 := hz13.below (Nat.le_refl _) hb14
          have hB14 := hB13.trans (hb14.mono hB13.size)
          have hBw14 := hB12w.trans (hB14.mono hB12w.size)
          have hT14 := hT.below hT.pos hBw14
          clear hz13 hT13
          go_wp2_with fail
          refine (trick_Cover 4 (lo52 hand) _ _ _ R2 _ hz14 (lo52_w64 hand) hT14).mono ?_
          rw [Q3.out]
          rintro e w15 ⟨rfl, hb15⟩
          have hz15 := hz14.below (Nat.le_refl _) hb15
          have hB15 := hB14.trans (hb15.mono hB14.size)
          clear hz14 hT14
          go_wp2_with (go_at_call 23; refine (trick_right _ _ _ R2 _ hz15).mono ?_; rw [HF1.out]; rintro e w' ⟨rfl, rfl⟩)
          go_roundg (3 - (1 + 1))
          case rel => exact ⟨2, by decide, rfl, rfl, hB15⟩
          case measure => decide
        · have hck := hcells.2.2
          have hzk := hzs21.below (Nat.le_refl _) hBr
          obtain ⟨q1, q2, q3⟩ := HQ2.out
          have Q1 := Lib.hid q1
          have Q2 := Lib.hid q2
          have Q3 := Lib.hid q3
          clear q1 q2 q3
          go_wp2_with fail
          refine (trick_Winner 4 _ _ _ R3 _ hzk).mono ?_
          rw [Q1.out]
          rintro e w13 ⟨rfl, hb13⟩
          have hz13 := hzk.below (Nat.le_refl _) hb13
          have hB13 := hBr.trans (hb13.mono hBr.size)
          have hBw13 := hB12w.trans (hB13.mono hB12w.size)
          have hT13 := hT.below hT.pos hBw13
          go_wp2_with fail
          refine (trick_Winners 4 (lo52 hand) _ _ _ R3 _ hz13 (lo52_w64 hand) hT13).mono ?_
          rw [Q2.out]
          rintro e w14 ⟨rfl, hb14⟩
          have hz14 := hz13.below (Nat.le_refl _) hb14
          have hB14 := hB13.trans (hb14.mono hB13.size)
          have hBw14 := hB12w.trans (hB14.mono hB12w.size)
          have hT14 := hT.below hT.pos hBw14
          clear hz13 hT13
          go_wp2_with fail
          refine (trick_Cover 4 (lo52 hand) _ _ _ R3 _ hz14 (lo52_w64 hand) hT14).mono ?_
          rw [Q3.out]
          rintro e w15 ⟨rfl, hb15⟩
          have hz15 := hz14.below (Nat.le_refl _) hb15
          have hB15 := hB14.trans (hb15.mono hB14.size)
          clear hz14 hT14
          go_wp2_with (go_at_call 23; refine (trick_right _ _ _ R3 _ hz15).mono ?_; rw [HF2.out]; rintro e w' ⟨rfl, rfl⟩)
          go_roundg (3 - (2 + 1))
          case rel => exact ⟨3, by decide, rfl, rfl, hB15⟩
          case measure => decide
      · obtain rfl : k = 3 := by omega
        obtain ⟨l1', hl1'⟩ : ∃ l1' : Nat, l1' = l1 := ⟨_, rfl⟩
        have HS0 : Hid (strengthV 5 0 0 = 0) := Lib.hid rfl
        have HSl : Hid (strengthV 0 l1 c = 0) := Lib.hid (by unfold strengthV; rw [if_neg (by omega)])
        have HSb : Hid (strengthV 0 0 bad = 0) := Lib.hid (by unfold strengthV; rw [if_neg (by omega)])
        clear hl1' l1'
        go_wp2_with fail
        refine (trick_Strength 5 0 0 _).mono ?_
        rw [HS0.out]
        rintro e w13 ⟨rfl, hb13⟩
        go_wp2_with fail
        rw [HLI.out]
        refine (trick_Strength 0 l1 c _).mono ?_
        rw [HSl.out]
        rintro e w14 ⟨rfl, hb14⟩
        go_wp2_with fail
        refine (trick_Strength 0 0 bad _).mono ?_
        rw [HSb.out]
        rintro e w15 ⟨rfl, hb15⟩
        go_wp2_with fail
        go_ret
        have hBa := hB12w.trans (hBr.mono hB12w.size)
        have hBb := hBa.trans (hb13.mono hBa.size)
        have hBc := hBb.trans (hb14.mono hBb.size)
        exact ⟨rfl, hBc.trans (hb15.mono hBc.size)⟩
end Go.Proofs.YthilcnhnfdddhaaDoor
