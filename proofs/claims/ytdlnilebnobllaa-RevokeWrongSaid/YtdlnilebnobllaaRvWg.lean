/- RvWg0, RvWg1, RvWg2, RvWg3, RvWg4, RvWg5, RvWg6, RvWg7, RvWgJ in one text. -/
import Derived.Test.YtdlnilebnobllaaRvWgB
import Derived.Outline
import Derived.Deep.Cut
import Derived.Deep.RegionHeld3
import Derived.Deep.AppendLies

/- The body of finesselaw13.RevokeWrong over this seat's program: way 0. -/
namespace Go.Proofs.Ytdlnilebnobllaa
open Go.RowKit Go.Shelf Go.Sort

set_option maxHeartbeats 2000000 in
set_option maxRecDepth 100000 in
theorem law_RevokeWrong0 (x : Sk) (ao : Option Addr) (lo co : Nat) (ap : Option Addr) (lp cp : Nat) (n : Int) (way : Nat) (w : World) (ho : Byt w ao lo x.order) (hp : Byt w ap lp x.play)
    (hsz : x.size < 256) (htr : x.trumps < 256) (hde : x.decl < 256) (hn64 : -9223372036854775808 ≤ n ∧ n ≤ 9223372036854775807) (hway : way < 256) (hwc : way % 8 = 0) :
    Calls Try.prog 10 #[.agg (x.cells ao lo co ap lp cp), .int .i64 n, .int .u8 (way : Int)] w fun e w' => e = .returned (.bool true) ∧ Below w.heap.size w w' := by
  have hn := x.n_le
  have HA := Lib.hid (show ∀ w1, Calls Try.prog 12 #[] w1 fun e w' => e = .returned (.bool true) ∧ Below w1.heap.size w1 w' from awake_true)
  have HM : Hid (∀ w1, Below w.heap.size w w1 → Calls Try.prog 17 #[.agg (x.cells ao lo co ap lp cp)] w1 fun e w' =>
      ∃ a cap, e = .returned (x.rc.v a (4 * x.n) cap) ∧ x.rc.ok (4 * x.n) cap ∧ Byt w' a (4 * x.n) x.rc.zs ∧ (∀ ad, a = some ad → w1.heap.size ≤ ad.block ∧ ad.block < w'.heap.size) ∧ OwnU w' w1.heap.size (.slice a (4 * x.n) cap) x.rc.zs ∧ Below w1.heap.size w1 w') :=
    fun w1 hb => law_made x ao lo co ap lp cp w1 (ho.below (Nat.le_refl _) hb) (hp.below (Nat.le_refl _) hb) hsz htr hde
  go_enter Try.func10, Try.ntmps10
  go_wp2_with fail
  have hB0 := (Below.refl w.heap.size w).alloc (Nat.le_refl _) (.cells (x.cells ao lo co ap lp cp) 36)
  have hX := Row.new w 36 (x.cells ao lo co ap lp cp)
  refine (HA.out _).mono ?_
  rintro e w1 ⟨rfl, hb1⟩
  have hB1 := hB0.trans (hb1.mono hB0.size)
  have hX1 := hX.below hX.lt hb1
  clear hX hB0 hb1
  have x0 := hX1.cell 0
  have x1 := hX1.cell 1
  have x2 := hX1.cell 2
  have x3 := hX1.cell 3
  have x4 := hX1.cell 4
  have x5 := hX1.cell 5
  simp only [List.getElem?_toArray, List.getElem?_cons_zero, List.getElem?_cons_succ] at x0 x1 x2 x3 x4 x5
  go_wp2_with fail
  refine (HM.out w1 hB1).mono ?_
  rintro e w2 ⟨a, cap, rfl, hok, hz, hab, how, hb2⟩
  have hB2 := hB1.trans (hb2.mono hB1.size)
  have hR := Row.new w2 27 (x.rc.cells a (4 * x.n) cap)
  have hBr : Below w2.heap.size w2 (w2.alloc (.cells (x.rc.cells a (4 * x.n) cap) 27)) := (Below.refl _ _).alloc (Nat.le_refl _) _
  have hzB : ∀ w3, Below w2.heap.size w2 w3 → Byt w3 a (4 * x.n) x.rc.zs ∧ ∀ ad, a = some ad → ad.block < w3.heap.size := fun w3 h => ⟨hz.below (Nat.le_refl _) h, fun ad he => Nat.lt_of_lt_of_le (hab ad he).2 h.size⟩
  clear x0 x1 x2 x3 x4 x5 hX1 HA HM
  obtain ⟨L, hL⟩ : ∃ L, L = 4 * x.n := ⟨_, rfl⟩
  have hL24 : L ≤ 24 := by omega
  have hL0 : 0 < L := by omega
  obtain ⟨k, hk⟩ : ∃ k : Nat, (k : Int) = IntKind.u64.wrap n % (L : Int) := ⟨(IntKind.u64.wrap n % (L : Int)).toNat, by rw [Int.toNat_of_nonneg (Int.emod_nonneg _ (by omega))]⟩
  have hkL : k < L := by have := Int.emod_lt_of_pos (IntKind.u64.wrap n) (show (0 : Int) < (L : Int) by omega); omega
  have hkE : (IntKind.u64.wrap n).tmod (L : Int) = (k : Int) := by rw [Int.tmod_eq_emod_of_nonneg (by rw [IntKind.wrap_u64]; omega)]; exact hk.symm
  have hw8 : (way : Int) % 8 = 0 := by omega
  have hln := made_len x
  have HLT := Lib.hid (made_lt x)
  have hrd3 : x.rc.d ≤ 3 := dealt_d (made_dealt x)
  have hrt4 := (made_td x).1
  have hh64 := Lib.hid (made_w64 x)
  obtain ⟨q, hq⟩ : ∃ q : Nat, (q : Int) = n % 128 := ⟨(n % 128).toNat, by omega⟩
  have hq128 : q < 128 := by omega
  have hqI : n % 128 = (q : Int) := hq.symm
  have HN64 := Lib.hid hn64
  have hno := how.len
  obtain ⟨ad, hadE⟩ : ∃ ad, a = some ad := by
    cases a with
    | none => rcases hz.cells with h | ⟨_, _, h, _⟩; exact absurd h (by omega); cases h
    | some ad => exact ⟨ad, rfl⟩
  subst hadE
  rw [← hL] at hln hok hz how hR hBr hzB ⊢
  have HL := Lib.hid hL
  have HLN := Lib.hid hln
  have hbad := (hab ad rfl).2
  clear hL hk hq hn64 hn hwc hno hok hab hzB hln
  have hRe := hR.alloc (.cells #[] 5)
  have hzE := hz.below (Nat.le_refl _) (hBr.alloc (by simp) (.cells #[] 5))
  have hown0 := ownU_made0 (w2.alloc (.cells (x.rc.cells (some ad) L cap) 27)) (w2.heap.size + 1) (by rw [World.size_alloc]; exact Nat.le_refl _)
  rw [World.size_alloc] at hown0
  have hbs0 : w2.heap.size + 1 ≤ ((w2.alloc (.cells (x.rc.cells (some ad) L cap) 27)).alloc (.cells #[] 5)).heap.size := by rw [World.size_alloc, World.size_alloc]; omega
  have hby0 : ([] : List Nat).length + L ≤ 140737488355328 := by show 0 + L ≤ _; omega
  go_upto_region 5 with (at_builtin; go_loud (refine appU rfl (.tmp 29) (.tmp 31) rfl (w2.heap.size + 1) _ [] x.rc.zs rfl hown0 ad L cap rfl hzE hby0 hbs0 ?_); go_loud (intro v' w3 hoA hB3 hx1 hx2; clear hx1 hx2; rw [List.nil_append] at hoA); go_loud (obtain ⟨al, cl, hv, hne⟩ := hoA.slice; obtain ⟨g, hg⟩ := hne (by intro e; have := HLN.out; rw [e] at this; simp at this; omega); subst hv; subst hg); go_loud (have hR3 := hRe.below (by omega) hB3; have c6 := hR3.cell 6; have f6 := hR3.frozen 6); (try simp only [List.getElem?_toArray, List.getElem?_cons_zero, List.getElem?_cons_succ] at c6); go_loud ( have hgl := (hoA.row (g := g) rfl)); go_loud (have hs3 := hB3.size; try simp only [World.size_alloc] at hs3))
  have hlc : L ≤ cl ∧ cl ≤ maxLen := by
    rcases hoA.form with ⟨h1, _⟩ | ⟨g', c', h1, _, _, h2, h3⟩
    · cases h1
    · simp only [Value.slice.injEq] at h1
      rw [HLN.out] at h2
      exact ⟨by omega, by omega⟩
  unfold maxLen at hlc
  rw [HLN.out]
  rw [HLN.out] at hoA
  have hR4 := hR3.set 6 (.slice (some ⟨g, 0, none⟩) L cl)
  have hO4 := hoA.keptS (S := fun b => b ≠ w2.heap.size) (W' := w3.setCell ⟨w2.heap.size, 6, none⟩ (.slice (some ⟨g, 0, none⟩) L cl)) (by intro b hb; simp [Value.ownBlock] at hb; omega) ((Kept.refl _ _).setCell (by simp) _)
  have hB4 := ((hB2.trans ((hBr.alloc (by simp) (.cells #[] 5)).mono hB2.size)).trans (hB3.mono (by have := hB2.size; omega))).setCell (p := ⟨w2.heap.size, 6, none⟩) hB2.size (.slice (some ⟨g, 0, none⟩) L cl)
  have hgw : g < (w3.setCell ⟨w2.heap.size, 6, none⟩ (.slice (some ⟨g, 0, none⟩) L cl)).heap.size := by simp; exact hgl.2.1
  have hg2 : w2.heap.size + 1 ≤ g := hgl.1
  have hs4 : w.heap.size ≤ w2.heap.size := hB2.size
  clear hgl hs3 c6 f6 hR3 hB3 hRe hzE hR hBr hoA how hz hbad
  generalize w3.setCell ⟨w2.heap.size, 6, none⟩ (.slice (some ⟨g, 0, none⟩) L cl) = w4 at *
  have hR4' : Row w4 w2.heap.size 27 (x.rc.cells (some ⟨g, 0, none⟩) L cl) := hR4
  clear hR4
  have r0 := hR4'.cell 0
  have r1 := hR4'.cell 1
  have r2 := hR4'.cell 2
  have r3 := hR4'.cell 3
  have r4 := hR4'.cell 4
  have r5 := hR4'.cell 5
  have r6 := hR4'.cell 6
  simp only [List.getElem?_toArray, List.getElem?_cons_zero, List.getElem?_cons_succ] at r0 r1 r2 r3 r4 r5 r6
  have fJ := hR4'.frozen 0
  go_upto_region 30 with fail
  have hRT0 := hR4'.set 0 (.int .u64 0)
  have hBT := hB4.setCell (p := ⟨w2.heap.size, 0, none⟩) hs4 (.int .u64 0)
  have hOT := hO4.keptS (S := fun b => b ≠ w2.heap.size) (W' := w4.setCell ⟨w2.heap.size, 0, none⟩ (.int .u64 0)) (by intro b hb; simp [Value.ownBlock] at hb; omega) ((Kept.refl _ _).setCell (by simp) _)
  have hgT : g < (w4.setCell ⟨w2.heap.size, 0, none⟩ (.int .u64 0)).heap.size := by simp; exact hgw
  clear fJ r0 r1 r2 r3 r4 r5 r6 hO4 hB4 hgw
  generalize w4.setCell ⟨w2.heap.size, 0, none⟩ (.int .u64 0) = wT at *
  have hRT : Row wT w2.heap.size 27 #[.int .u64 0, .int .u64 (x.rc.h 1 : Int), .int .u64 (x.rc.h 2 : Int), .int .u64 (x.rc.h 3 : Int), .int .u8 (x.rc.t : Int), .int .u8 (x.rc.d : Int), .slice (some ⟨g, 0, none⟩) L cl] := hRT0
  clear hRT0 hR4'
  have HRV := Lib.hid (right_bad (wrong0 x))
  have hokT : ((⟨setH x.rc.h 0 0, x.rc.t, x.rc.d, x.rc.zs⟩ : Rc)).ok L cl := ⟨fun j => W64.setH hh64.out _ _ W64.zero j, by show x.rc.t < 256; omega, by show x.rc.d < 256; omega, hlc.1, by have := hlc.2; omega⟩
  have HV : Hid (((⟨setH x.rc.h 0 0, x.rc.t, x.rc.d, x.rc.zs⟩ : Rc)).v (some ⟨g, 0, none⟩) L cl = .agg #[.int .u64 0, .int .u64 (x.rc.h 1 : Int), .int .u64 (x.rc.h 2 : Int), .int .u64 (x.rc.h 3 : Int), .int .u8 (x.rc.t : Int), .int .u8 (x.rc.d : Int), .slice (some ⟨g, 0, none⟩) L cl]) := Lib.hid rfl
  obtain ⟨aT, cT, heT, -, -, -, -, hzT⟩ := OwnU.byt hOT (by rw [HLN.out]; omega) (fun i => by have := getD_lt (n := 52) (by omega) HLT.out i; omega)
  simp only [Value.slice.injEq] at heT
  obtain ⟨rfl, hlT, rfl⟩ := heT
  rw [← hlT] at hzT
  clear hlT
  have hT2 := hBT.size
  have r0 := hRT.cell 0
  have r1 := hRT.cell 1
  have r2 := hRT.cell 2
  have r3 := hRT.cell 3
  have r4 := hRT.cell 4
  have r5 := hRT.cell 5
  have r6 := hRT.cell 6
  simp only [List.getElem?_toArray, List.getElem?_cons_zero, List.getElem?_cons_succ] at r0 r1 r2 r3 r4 r5 r6
  have hc5 := bad_right (some ⟨g, 0, none⟩) L cl wT hokT hzT (fun ad h => by injection h with h; subst h; exact hgT) HRV.out
  try rw [HV.out] at hc5
  have HC5 := Lib.hid hc5
  clear hc5
  go_wp2_with fail
  refine HC5.out.mono ?_
  rintro e w5 ⟨rfl, hb5⟩
  have hR5x := hRT.below hRT.lt hb5
  have hB5x := hBT.trans (hb5.mono hBT.size)
  have hz5x := hzT.below (Nat.le_refl _) hb5
  have hg5x := Nat.lt_of_lt_of_le hgT hb5.size
  clear r0 r1 r2 r3 r4 r5 r6 hRT hBT hzT hgT hb5 HC5
  have r0 := hR5x.cell 0
  have r1 := hR5x.cell 1
  have r2 := hR5x.cell 2
  have r3 := hR5x.cell 3
  have r4 := hR5x.cell 4
  have r5 := hR5x.cell 5
  have r6 := hR5x.cell 6
  simp only [List.getElem?_toArray, List.getElem?_cons_zero, List.getElem?_cons_succ] at r0 r1 r2 r3 r4 r5 r6
  have hc6 := bad_wins (by omega) (some ⟨g, 0, none⟩) L cl w5 hokT hz5x (fun ad h => by injection h with h; subst h; exact hg5x) HRV.out
  try rw [HV.out] at hc6
  have HC6 := Lib.hid hc6
  clear hc6
  go_wp2_with fail
  refine HC6.out.mono ?_
  rintro e w6 ⟨rfl, hb6⟩
  have hR6x := hR5x.below hR5x.lt hb6
  have hB6x := hB5x.trans (hb6.mono hB5x.size)
  have hz6x := hz5x.below (Nat.le_refl _) hb6
  have hg6x := Nat.lt_of_lt_of_le hg5x hb6.size
  clear r0 r1 r2 r3 r4 r5 r6 hR5x hB5x hz5x hg5x hb6 HC6
  have r0 := hR6x.cell 0
  have r1 := hR6x.cell 1
  have r2 := hR6x.cell 2
  have r3 := hR6x.cell 3
  have r4 := hR6x.cell 4
  have r5 := hR6x.cell 5
  have r6 := hR6x.cell 6
  simp only [List.getElem?_toArray, List.getElem?_cons_zero, List.getElem?_cons_succ] at r0 r1 r2 r3 r4 r5 r6
  have hc7 := bad_find (by omega) (some ⟨g, 0, none⟩) L cl w6 hokT hz6x (fun ad h => by injection h with h; subst h; exact hg6x) HRV.out
  try rw [HV.out] at hc7
  have HC7 := Lib.hid hc7
  clear hc7
  go_wp2_with fail
  refine HC7.out.mono ?_
  rintro e w7 ⟨rfl, hb7⟩
  have hR7x := hR6x.below hR6x.lt hb7
  have hB7x := hB6x.trans (hb7.mono hB6x.size)
  have hz7x := hz6x.below (Nat.le_refl _) hb7
  have hg7x := Nat.lt_of_lt_of_le hg6x hb7.size
  clear r0 r1 r2 r3 r4 r5 r6 hR6x hB6x hz6x hg6x hb7 HC7
  have r0 := hR7x.cell 0
  have r1 := hR7x.cell 1
  have r2 := hR7x.cell 2
  have r3 := hR7x.cell 3
  have r4 := hR7x.cell 4
  have r5 := hR7x.cell 5
  have r6 := hR7x.cell 6
  simp only [List.getElem?_toArray, List.getElem?_cons_zero, List.getElem?_cons_succ] at r0 r1 r2 r3 r4 r5 r6
  have hc8 := bad_moved (by omega) (some ⟨g, 0, none⟩) L cl w7 hokT hz7x (fun ad h => by injection h with h; subst h; exact hg7x) (by omega) HRV.out
  try rw [HV.out] at hc8
  have HC8 := Lib.hid hc8
  clear hc8
  go_wp2_with fail
  refine HC8.out.mono ?_
  rintro e w8 ⟨rfl, hb8⟩
  have hR8x := hR7x.below hR7x.lt hb8
  have hB8x := hB7x.trans (hb8.mono hB7x.size)
  have hz8x := hz7x.below (Nat.le_refl _) hb8
  have hg8x := Nat.lt_of_lt_of_le hg7x hb8.size
  clear r0 r1 r2 r3 r4 r5 r6 hR7x hB7x hz7x hg7x hb8 HC8
  have r0 := hR8x.cell 0
  have r1 := hR8x.cell 1
  have r2 := hR8x.cell 2
  have r3 := hR8x.cell 3
  have r4 := hR8x.cell 4
  have r5 := hR8x.cell 5
  have r6 := hR8x.cell 6
  simp only [List.getElem?_toArray, List.getElem?_cons_zero, List.getElem?_cons_succ] at r0 r1 r2 r3 r4 r5 r6
  have hc9 := bad_tricks (by omega) (some ⟨g, 0, none⟩) L cl w8 hokT hz8x (fun ad h => by injection h with h; subst h; exact hg8x) (by omega) HRV.out
  try rw [HV.out] at hc9
  have HC9 := Lib.hid hc9
  clear hc9
  go_wp2_with fail
  refine HC9.out.mono ?_
  rintro e w9 ⟨rfl, hb9⟩
  have hR9x := hR8x.below hR8x.lt hb9
  have hB9x := hB8x.trans (hb9.mono hB8x.size)
  have hz9x := hz8x.below (Nat.le_refl _) hb9
  have hg9x := Nat.lt_of_lt_of_le hg8x hb9.size
  clear r0 r1 r2 r3 r4 r5 r6 hR8x hB8x hz8x hg8x hb9 HC9
  have HB9 := Lib.hid hB9x
  clear hR9x hB9x hz9x hg9x
  go_wp2
  go_ret
  exact ⟨rfl, HB9.out⟩
end Go.Proofs.Ytdlnilebnobllaa

/- The body of finesselaw13.RevokeWrong over this seat's program: way 1. -/
namespace Go.Proofs.Ytdlnilebnobllaa
open Go.RowKit Go.Shelf Go.Sort

set_option maxHeartbeats 2000000 in
set_option maxRecDepth 100000 in
theorem law_RevokeWrong1 (x : Sk) (ao : Option Addr) (lo co : Nat) (ap : Option Addr) (lp cp : Nat) (n : Int) (way : Nat) (w : World) (ho : Byt w ao lo x.order) (hp : Byt w ap lp x.play)
    (hsz : x.size < 256) (htr : x.trumps < 256) (hde : x.decl < 256) (hn64 : -9223372036854775808 ≤ n ∧ n ≤ 9223372036854775807) (hway : way < 256) (hwc : way % 8 = 1) :
    Calls Try.prog 10 #[.agg (x.cells ao lo co ap lp cp), .int .i64 n, .int .u8 (way : Int)] w fun e w' => e = .returned (.bool true) ∧ Below w.heap.size w w' := by
  have hn := x.n_le
  have HA := Lib.hid (show ∀ w1, Calls Try.prog 12 #[] w1 fun e w' => e = .returned (.bool true) ∧ Below w1.heap.size w1 w' from awake_true)
  have HM : Hid (∀ w1, Below w.heap.size w w1 → Calls Try.prog 17 #[.agg (x.cells ao lo co ap lp cp)] w1 fun e w' =>
      ∃ a cap, e = .returned (x.rc.v a (4 * x.n) cap) ∧ x.rc.ok (4 * x.n) cap ∧ Byt w' a (4 * x.n) x.rc.zs ∧ (∀ ad, a = some ad → w1.heap.size ≤ ad.block ∧ ad.block < w'.heap.size) ∧ OwnU w' w1.heap.size (.slice a (4 * x.n) cap) x.rc.zs ∧ Below w1.heap.size w1 w') :=
    fun w1 hb => law_made x ao lo co ap lp cp w1 (ho.below (Nat.le_refl _) hb) (hp.below (Nat.le_refl _) hb) hsz htr hde
  go_enter Try.func10, Try.ntmps10
  go_wp2_with fail
  have hB0 := (Below.refl w.heap.size w).alloc (Nat.le_refl _) (.cells (x.cells ao lo co ap lp cp) 36)
  have hX := Row.new w 36 (x.cells ao lo co ap lp cp)
  refine (HA.out _).mono ?_
  rintro e w1 ⟨rfl, hb1⟩
  have hB1 := hB0.trans (hb1.mono hB0.size)
  have hX1 := hX.below hX.lt hb1
  clear hX hB0 hb1
  have x0 := hX1.cell 0
  have x1 := hX1.cell 1
  have x2 := hX1.cell 2
  have x3 := hX1.cell 3
  have x4 := hX1.cell 4
  have x5 := hX1.cell 5
  simp only [List.getElem?_toArray, List.getElem?_cons_zero, List.getElem?_cons_succ] at x0 x1 x2 x3 x4 x5
  go_wp2_with fail
  refine (HM.out w1 hB1).mono ?_
  rintro e w2 ⟨a, cap, rfl, hok, hz, hab, how, hb2⟩
  have hB2 := hB1.trans (hb2.mono hB1.size)
  have hR := Row.new w2 27 (x.rc.cells a (4 * x.n) cap)
  have hBr : Below w2.heap.size w2 (w2.alloc (.cells (x.rc.cells a (4 * x.n) cap) 27)) := (Below.refl _ _).alloc (Nat.le_refl _) _
  have hzB : ∀ w3, Below w2.heap.size w2 w3 → Byt w3 a (4 * x.n) x.rc.zs ∧ ∀ ad, a = some ad → ad.block < w3.heap.size := fun w3 h => ⟨hz.below (Nat.le_refl _) h, fun ad he => Nat.lt_of_lt_of_le (hab ad he).2 h.size⟩
  clear x0 x1 x2 x3 x4 x5 hX1 HA HM
  obtain ⟨L, hL⟩ : ∃ L, L = 4 * x.n := ⟨_, rfl⟩
  have hL24 : L ≤ 24 := by omega
  have hL0 : 0 < L := by omega
  obtain ⟨k, hk⟩ : ∃ k : Nat, (k : Int) = IntKind.u64.wrap n % (L : Int) := ⟨(IntKind.u64.wrap n % (L : Int)).toNat, by rw [Int.toNat_of_nonneg (Int.emod_nonneg _ (by omega))]⟩
  have hkL : k < L := by have := Int.emod_lt_of_pos (IntKind.u64.wrap n) (show (0 : Int) < (L : Int) by omega); omega
  have hkE : (IntKind.u64.wrap n).tmod (L : Int) = (k : Int) := by rw [Int.tmod_eq_emod_of_nonneg (by rw [IntKind.wrap_u64]; omega)]; exact hk.symm
  have hw8 : (way : Int) % 8 = 1 := by omega
  have hln := made_len x
  have HLT := Lib.hid (made_lt x)
  have hrd3 : x.rc.d ≤ 3 := dealt_d (made_dealt x)
  have hrt4 := (made_td x).1
  have hh64 := Lib.hid (made_w64 x)
  obtain ⟨q, hq⟩ : ∃ q : Nat, (q : Int) = n % 128 := ⟨(n % 128).toNat, by omega⟩
  have hq128 : q < 128 := by omega
  have hqI : n % 128 = (q : Int) := hq.symm
  have HN64 := Lib.hid hn64
  have hno := how.len
  obtain ⟨ad, hadE⟩ : ∃ ad, a = some ad := by
    cases a with
    | none => rcases hz.cells with h | ⟨_, _, h, _⟩; exact absurd h (by omega); cases h
    | some ad => exact ⟨ad, rfl⟩
  subst hadE
  rw [← hL] at hln hok hz how hR hBr hzB ⊢
  have HL := Lib.hid hL
  have HLN := Lib.hid hln
  have hbad := (hab ad rfl).2
  clear hL hk hq hn64 hn hwc hno hok hab hzB hln
  have hRe := hR.alloc (.cells #[] 5)
  have hzE := hz.below (Nat.le_refl _) (hBr.alloc (by simp) (.cells #[] 5))
  have hown0 := ownU_made0 (w2.alloc (.cells (x.rc.cells (some ad) L cap) 27)) (w2.heap.size + 1) (by rw [World.size_alloc]; exact Nat.le_refl _)
  rw [World.size_alloc] at hown0
  have hbs0 : w2.heap.size + 1 ≤ ((w2.alloc (.cells (x.rc.cells (some ad) L cap) 27)).alloc (.cells #[] 5)).heap.size := by rw [World.size_alloc, World.size_alloc]; omega
  have hby0 : ([] : List Nat).length + L ≤ 140737488355328 := by show 0 + L ≤ _; omega
  go_upto_region 5 with (at_builtin; go_loud (refine appU rfl (.tmp 29) (.tmp 31) rfl (w2.heap.size + 1) _ [] x.rc.zs rfl hown0 ad L cap rfl hzE hby0 hbs0 ?_); go_loud (intro v' w3 hoA hB3 hx1 hx2; clear hx1 hx2; rw [List.nil_append] at hoA); go_loud (obtain ⟨al, cl, hv, hne⟩ := hoA.slice; obtain ⟨g, hg⟩ := hne (by intro e; have := HLN.out; rw [e] at this; simp at this; omega); subst hv; subst hg); go_loud (have hR3 := hRe.below (by omega) hB3; have c6 := hR3.cell 6; have f6 := hR3.frozen 6); (try simp only [List.getElem?_toArray, List.getElem?_cons_zero, List.getElem?_cons_succ] at c6); go_loud ( have hgl := (hoA.row (g := g) rfl)); go_loud (have hs3 := hB3.size; try simp only [World.size_alloc] at hs3))
  have hlc : L ≤ cl ∧ cl ≤ maxLen := by
    rcases hoA.form with ⟨h1, _⟩ | ⟨g', c', h1, _, _, h2, h3⟩
    · cases h1
    · simp only [Value.slice.injEq] at h1
      rw [HLN.out] at h2
      exact ⟨by omega, by omega⟩
  unfold maxLen at hlc
  rw [HLN.out]
  rw [HLN.out] at hoA
  have hR4 := hR3.set 6 (.slice (some ⟨g, 0, none⟩) L cl)
  have hO4 := hoA.keptS (S := fun b => b ≠ w2.heap.size) (W' := w3.setCell ⟨w2.heap.size, 6, none⟩ (.slice (some ⟨g, 0, none⟩) L cl)) (by intro b hb; simp [Value.ownBlock] at hb; omega) ((Kept.refl _ _).setCell (by simp) _)
  have hB4 := ((hB2.trans ((hBr.alloc (by simp) (.cells #[] 5)).mono hB2.size)).trans (hB3.mono (by have := hB2.size; omega))).setCell (p := ⟨w2.heap.size, 6, none⟩) hB2.size (.slice (some ⟨g, 0, none⟩) L cl)
  have hgw : g < (w3.setCell ⟨w2.heap.size, 6, none⟩ (.slice (some ⟨g, 0, none⟩) L cl)).heap.size := by simp; exact hgl.2.1
  have hg2 : w2.heap.size + 1 ≤ g := hgl.1
  have hs4 : w.heap.size ≤ w2.heap.size := hB2.size
  clear hgl hs3 c6 f6 hR3 hB3 hRe hzE hR hBr hoA how hz hbad
  generalize w3.setCell ⟨w2.heap.size, 6, none⟩ (.slice (some ⟨g, 0, none⟩) L cl) = w4 at *
  have hR4' : Row w4 w2.heap.size 27 (x.rc.cells (some ⟨g, 0, none⟩) L cl) := hR4
  clear hR4
  have r0 := hR4'.cell 0
  have r1 := hR4'.cell 1
  have r2 := hR4'.cell 2
  have r3 := hR4'.cell 3
  have r4 := hR4'.cell 4
  have r5 := hR4'.cell 5
  have r6 := hR4'.cell 6
  simp only [List.getElem?_toArray, List.getElem?_cons_zero, List.getElem?_cons_succ] at r0 r1 r2 r3 r4 r5 r6
  have hor := run_or64 (x.rc.h 3) (x.rc.h 2) (hh64.out 3) (hh64.out 2)
  have fJ := hR4'.frozen 3
  go_upto_region 30 with fail
  have hRT0 := hR4'.set 3 (.int .u64 ((lor (x.rc.h 3) (x.rc.h 2) : Nat) : Int))
  have hBT := hB4.setCell (p := ⟨w2.heap.size, 3, none⟩) hs4 (.int .u64 ((lor (x.rc.h 3) (x.rc.h 2) : Nat) : Int))
  have hOT := hO4.keptS (S := fun b => b ≠ w2.heap.size) (W' := w4.setCell ⟨w2.heap.size, 3, none⟩ (.int .u64 ((lor (x.rc.h 3) (x.rc.h 2) : Nat) : Int))) (by intro b hb; simp [Value.ownBlock] at hb; omega) ((Kept.refl _ _).setCell (by simp) _)
  have hgT : g < (w4.setCell ⟨w2.heap.size, 3, none⟩ (.int .u64 ((lor (x.rc.h 3) (x.rc.h 2) : Nat) : Int))).heap.size := by simp; exact hgw
  clear fJ r0 r1 r2 r3 r4 r5 r6 hO4 hB4 hgw
  generalize w4.setCell ⟨w2.heap.size, 3, none⟩ (.int .u64 ((lor (x.rc.h 3) (x.rc.h 2) : Nat) : Int)) = wT at *
  have hRT : Row wT w2.heap.size 27 #[.int .u64 (x.rc.h 0 : Int), .int .u64 (x.rc.h 1 : Int), .int .u64 (x.rc.h 2 : Int), .int .u64 ((lor (x.rc.h 3) (x.rc.h 2) : Nat) : Int), .int .u8 (x.rc.t : Int), .int .u8 (x.rc.d : Int), .slice (some ⟨g, 0, none⟩) L cl] := hRT0
  clear hRT0 hR4'
  have HRV := Lib.hid (right_bad (wrong1 x))
  have hokT : ((⟨setH x.rc.h 3 (lor (x.rc.h 3) (x.rc.h 2)), x.rc.t, x.rc.d, x.rc.zs⟩ : Rc)).ok L cl := ⟨fun j => W64.setH hh64.out _ _ ((hh64.out 3).lor (hh64.out 2)) j, by show x.rc.t < 256; omega, by show x.rc.d < 256; omega, hlc.1, by have := hlc.2; omega⟩
  have HV : Hid (((⟨setH x.rc.h 3 (lor (x.rc.h 3) (x.rc.h 2)), x.rc.t, x.rc.d, x.rc.zs⟩ : Rc)).v (some ⟨g, 0, none⟩) L cl = .agg #[.int .u64 (x.rc.h 0 : Int), .int .u64 (x.rc.h 1 : Int), .int .u64 (x.rc.h 2 : Int), .int .u64 ((lor (x.rc.h 3) (x.rc.h 2) : Nat) : Int), .int .u8 (x.rc.t : Int), .int .u8 (x.rc.d : Int), .slice (some ⟨g, 0, none⟩) L cl]) := Lib.hid rfl
  obtain ⟨aT, cT, heT, -, -, -, -, hzT⟩ := OwnU.byt hOT (by rw [HLN.out]; omega) (fun i => by have := getD_lt (n := 52) (by omega) HLT.out i; omega)
  simp only [Value.slice.injEq] at heT
  obtain ⟨rfl, hlT, rfl⟩ := heT
  rw [← hlT] at hzT
  clear hlT
  have hT2 := hBT.size
  have r0 := hRT.cell 0
  have r1 := hRT.cell 1
  have r2 := hRT.cell 2
  have r3 := hRT.cell 3
  have r4 := hRT.cell 4
  have r5 := hRT.cell 5
  have r6 := hRT.cell 6
  simp only [List.getElem?_toArray, List.getElem?_cons_zero, List.getElem?_cons_succ] at r0 r1 r2 r3 r4 r5 r6
  have hc5 := bad_right (some ⟨g, 0, none⟩) L cl wT hokT hzT (fun ad h => by injection h with h; subst h; exact hgT) HRV.out
  try rw [HV.out] at hc5
  have HC5 := Lib.hid hc5
  clear hc5
  go_wp2_with fail
  refine HC5.out.mono ?_
  rintro e w5 ⟨rfl, hb5⟩
  have hR5x := hRT.below hRT.lt hb5
  have hB5x := hBT.trans (hb5.mono hBT.size)
  have hz5x := hzT.below (Nat.le_refl _) hb5
  have hg5x := Nat.lt_of_lt_of_le hgT hb5.size
  clear r0 r1 r2 r3 r4 r5 r6 hRT hBT hzT hgT hb5 HC5
  have r0 := hR5x.cell 0
  have r1 := hR5x.cell 1
  have r2 := hR5x.cell 2
  have r3 := hR5x.cell 3
  have r4 := hR5x.cell 4
  have r5 := hR5x.cell 5
  have r6 := hR5x.cell 6
  simp only [List.getElem?_toArray, List.getElem?_cons_zero, List.getElem?_cons_succ] at r0 r1 r2 r3 r4 r5 r6
  have hc6 := bad_wins (by omega) (some ⟨g, 0, none⟩) L cl w5 hokT hz5x (fun ad h => by injection h with h; subst h; exact hg5x) HRV.out
  try rw [HV.out] at hc6
  have HC6 := Lib.hid hc6
  clear hc6
  go_wp2_with fail
  refine HC6.out.mono ?_
  rintro e w6 ⟨rfl, hb6⟩
  have hR6x := hR5x.below hR5x.lt hb6
  have hB6x := hB5x.trans (hb6.mono hB5x.size)
  have hz6x := hz5x.below (Nat.le_refl _) hb6
  have hg6x := Nat.lt_of_lt_of_le hg5x hb6.size
  clear r0 r1 r2 r3 r4 r5 r6 hR5x hB5x hz5x hg5x hb6 HC6
  have r0 := hR6x.cell 0
  have r1 := hR6x.cell 1
  have r2 := hR6x.cell 2
  have r3 := hR6x.cell 3
  have r4 := hR6x.cell 4
  have r5 := hR6x.cell 5
  have r6 := hR6x.cell 6
  simp only [List.getElem?_toArray, List.getElem?_cons_zero, List.getElem?_cons_succ] at r0 r1 r2 r3 r4 r5 r6
  have hc7 := bad_find (by omega) (some ⟨g, 0, none⟩) L cl w6 hokT hz6x (fun ad h => by injection h with h; subst h; exact hg6x) HRV.out
  try rw [HV.out] at hc7
  have HC7 := Lib.hid hc7
  clear hc7
  go_wp2_with fail
  refine HC7.out.mono ?_
  rintro e w7 ⟨rfl, hb7⟩
  have hR7x := hR6x.below hR6x.lt hb7
  have hB7x := hB6x.trans (hb7.mono hB6x.size)
  have hz7x := hz6x.below (Nat.le_refl _) hb7
  have hg7x := Nat.lt_of_lt_of_le hg6x hb7.size
  clear r0 r1 r2 r3 r4 r5 r6 hR6x hB6x hz6x hg6x hb7 HC7
  have r0 := hR7x.cell 0
  have r1 := hR7x.cell 1
  have r2 := hR7x.cell 2
  have r3 := hR7x.cell 3
  have r4 := hR7x.cell 4
  have r5 := hR7x.cell 5
  have r6 := hR7x.cell 6
  simp only [List.getElem?_toArray, List.getElem?_cons_zero, List.getElem?_cons_succ] at r0 r1 r2 r3 r4 r5 r6
  have hc8 := bad_moved (by omega) (some ⟨g, 0, none⟩) L cl w7 hokT hz7x (fun ad h => by injection h with h; subst h; exact hg7x) (by omega) HRV.out
  try rw [HV.out] at hc8
  have HC8 := Lib.hid hc8
  clear hc8
  go_wp2_with fail
  refine HC8.out.mono ?_
  rintro e w8 ⟨rfl, hb8⟩
  have hR8x := hR7x.below hR7x.lt hb8
  have hB8x := hB7x.trans (hb8.mono hB7x.size)
  have hz8x := hz7x.below (Nat.le_refl _) hb8
  have hg8x := Nat.lt_of_lt_of_le hg7x hb8.size
  clear r0 r1 r2 r3 r4 r5 r6 hR7x hB7x hz7x hg7x hb8 HC8
  have r0 := hR8x.cell 0
  have r1 := hR8x.cell 1
  have r2 := hR8x.cell 2
  have r3 := hR8x.cell 3
  have r4 := hR8x.cell 4
  have r5 := hR8x.cell 5
  have r6 := hR8x.cell 6
  simp only [List.getElem?_toArray, List.getElem?_cons_zero, List.getElem?_cons_succ] at r0 r1 r2 r3 r4 r5 r6
  have hc9 := bad_tricks (by omega) (some ⟨g, 0, none⟩) L cl w8 hokT hz8x (fun ad h => by injection h with h; subst h; exact hg8x) (by omega) HRV.out
  try rw [HV.out] at hc9
  have HC9 := Lib.hid hc9
  clear hc9
  go_wp2_with fail
  refine HC9.out.mono ?_
  rintro e w9 ⟨rfl, hb9⟩
  have hR9x := hR8x.below hR8x.lt hb9
  have hB9x := hB8x.trans (hb9.mono hB8x.size)
  have hz9x := hz8x.below (Nat.le_refl _) hb9
  have hg9x := Nat.lt_of_lt_of_le hg8x hb9.size
  clear r0 r1 r2 r3 r4 r5 r6 hR8x hB8x hz8x hg8x hb9 HC9
  have HB9 := Lib.hid hB9x
  clear hR9x hB9x hz9x hg9x
  go_wp2
  go_ret
  exact ⟨rfl, HB9.out⟩
end Go.Proofs.Ytdlnilebnobllaa

/- The body of finesselaw13.RevokeWrong over this seat's program: way 2. -/
namespace Go.Proofs.Ytdlnilebnobllaa
open Go.RowKit Go.Shelf Go.Sort

set_option maxHeartbeats 2000000 in
set_option maxRecDepth 100000 in
theorem law_RevokeWrong2 (x : Sk) (ao : Option Addr) (lo co : Nat) (ap : Option Addr) (lp cp : Nat) (n : Int) (way : Nat) (w : World) (ho : Byt w ao lo x.order) (hp : Byt w ap lp x.play)
    (hsz : x.size < 256) (htr : x.trumps < 256) (hde : x.decl < 256) (hn64 : -9223372036854775808 ≤ n ∧ n ≤ 9223372036854775807) (hway : way < 256) (hwc : way % 8 = 2) :
    Calls Try.prog 10 #[.agg (x.cells ao lo co ap lp cp), .int .i64 n, .int .u8 (way : Int)] w fun e w' => e = .returned (.bool true) ∧ Below w.heap.size w w' := by
  have hn := x.n_le
  have HA := Lib.hid (show ∀ w1, Calls Try.prog 12 #[] w1 fun e w' => e = .returned (.bool true) ∧ Below w1.heap.size w1 w' from awake_true)
  have HM : Hid (∀ w1, Below w.heap.size w w1 → Calls Try.prog 17 #[.agg (x.cells ao lo co ap lp cp)] w1 fun e w' =>
      ∃ a cap, e = .returned (x.rc.v a (4 * x.n) cap) ∧ x.rc.ok (4 * x.n) cap ∧ Byt w' a (4 * x.n) x.rc.zs ∧ (∀ ad, a = some ad → w1.heap.size ≤ ad.block ∧ ad.block < w'.heap.size) ∧ OwnU w' w1.heap.size (.slice a (4 * x.n) cap) x.rc.zs ∧ Below w1.heap.size w1 w') :=
    fun w1 hb => law_made x ao lo co ap lp cp w1 (ho.below (Nat.le_refl _) hb) (hp.below (Nat.le_refl _) hb) hsz htr hde
  go_enter Try.func10, Try.ntmps10
  go_wp2_with fail
  have hB0 := (Below.refl w.heap.size w).alloc (Nat.le_refl _) (.cells (x.cells ao lo co ap lp cp) 36)
  have hX := Row.new w 36 (x.cells ao lo co ap lp cp)
  refine (HA.out _).mono ?_
  rintro e w1 ⟨rfl, hb1⟩
  have hB1 := hB0.trans (hb1.mono hB0.size)
  have hX1 := hX.below hX.lt hb1
  clear hX hB0 hb1
  have x0 := hX1.cell 0
  have x1 := hX1.cell 1
  have x2 := hX1.cell 2
  have x3 := hX1.cell 3
  have x4 := hX1.cell 4
  have x5 := hX1.cell 5
  simp only [List.getElem?_toArray, List.getElem?_cons_zero, List.getElem?_cons_succ] at x0 x1 x2 x3 x4 x5
  go_wp2_with fail
  refine (HM.out w1 hB1).mono ?_
  rintro e w2 ⟨a, cap, rfl, hok, hz, hab, how, hb2⟩
  have hB2 := hB1.trans (hb2.mono hB1.size)
  have hR := Row.new w2 27 (x.rc.cells a (4 * x.n) cap)
  have hBr : Below w2.heap.size w2 (w2.alloc (.cells (x.rc.cells a (4 * x.n) cap) 27)) := (Below.refl _ _).alloc (Nat.le_refl _) _
  have hzB : ∀ w3, Below w2.heap.size w2 w3 → Byt w3 a (4 * x.n) x.rc.zs ∧ ∀ ad, a = some ad → ad.block < w3.heap.size := fun w3 h => ⟨hz.below (Nat.le_refl _) h, fun ad he => Nat.lt_of_lt_of_le (hab ad he).2 h.size⟩
  clear x0 x1 x2 x3 x4 x5 hX1 HA HM
  obtain ⟨L, hL⟩ : ∃ L, L = 4 * x.n := ⟨_, rfl⟩
  have hL24 : L ≤ 24 := by omega
  have hL0 : 0 < L := by omega
  obtain ⟨k, hk⟩ : ∃ k : Nat, (k : Int) = IntKind.u64.wrap n % (L : Int) := ⟨(IntKind.u64.wrap n % (L : Int)).toNat, by rw [Int.toNat_of_nonneg (Int.emod_nonneg _ (by omega))]⟩
  have hkL : k < L := by have := Int.emod_lt_of_pos (IntKind.u64.wrap n) (show (0 : Int) < (L : Int) by omega); omega
  have hkE : (IntKind.u64.wrap n).tmod (L : Int) = (k : Int) := by rw [Int.tmod_eq_emod_of_nonneg (by rw [IntKind.wrap_u64]; omega)]; exact hk.symm
  have hw8 : (way : Int) % 8 = 2 := by omega
  have hln := made_len x
  have HLT := Lib.hid (made_lt x)
  have hrd3 : x.rc.d ≤ 3 := dealt_d (made_dealt x)
  have hrt4 := (made_td x).1
  have hh64 := Lib.hid (made_w64 x)
  obtain ⟨q, hq⟩ : ∃ q : Nat, (q : Int) = n % 128 := ⟨(n % 128).toNat, by omega⟩
  have hq128 : q < 128 := by omega
  have hqI : n % 128 = (q : Int) := hq.symm
  have HN64 := Lib.hid hn64
  have hno := how.len
  obtain ⟨ad, hadE⟩ : ∃ ad, a = some ad := by
    cases a with
    | none => rcases hz.cells with h | ⟨_, _, h, _⟩; exact absurd h (by omega); cases h
    | some ad => exact ⟨ad, rfl⟩
  subst hadE
  rw [← hL] at hln hok hz how hR hBr hzB ⊢
  have HL := Lib.hid hL
  have HLN := Lib.hid hln
  have hbad := (hab ad rfl).2
  clear hL hk hq hn64 hn hwc hno hok hab hzB hln
  have hRe := hR.alloc (.cells #[] 5)
  have hzE := hz.below (Nat.le_refl _) (hBr.alloc (by simp) (.cells #[] 5))
  have hown0 := ownU_made0 (w2.alloc (.cells (x.rc.cells (some ad) L cap) 27)) (w2.heap.size + 1) (by rw [World.size_alloc]; exact Nat.le_refl _)
  rw [World.size_alloc] at hown0
  have hbs0 : w2.heap.size + 1 ≤ ((w2.alloc (.cells (x.rc.cells (some ad) L cap) 27)).alloc (.cells #[] 5)).heap.size := by rw [World.size_alloc, World.size_alloc]; omega
  have hby0 : ([] : List Nat).length + L ≤ 140737488355328 := by show 0 + L ≤ _; omega
  go_upto_region 5 with (at_builtin; go_loud (refine appU rfl (.tmp 29) (.tmp 31) rfl (w2.heap.size + 1) _ [] x.rc.zs rfl hown0 ad L cap rfl hzE hby0 hbs0 ?_); go_loud (intro v' w3 hoA hB3 hx1 hx2; clear hx1 hx2; rw [List.nil_append] at hoA); go_loud (obtain ⟨al, cl, hv, hne⟩ := hoA.slice; obtain ⟨g, hg⟩ := hne (by intro e; have := HLN.out; rw [e] at this; simp at this; omega); subst hv; subst hg); go_loud (have hR3 := hRe.below (by omega) hB3; have c6 := hR3.cell 6; have f6 := hR3.frozen 6); (try simp only [List.getElem?_toArray, List.getElem?_cons_zero, List.getElem?_cons_succ] at c6); go_loud ( have hgl := (hoA.row (g := g) rfl)); go_loud (have hs3 := hB3.size; try simp only [World.size_alloc] at hs3))
  have hlc : L ≤ cl ∧ cl ≤ maxLen := by
    rcases hoA.form with ⟨h1, _⟩ | ⟨g', c', h1, _, _, h2, h3⟩
    · cases h1
    · simp only [Value.slice.injEq] at h1
      rw [HLN.out] at h2
      exact ⟨by omega, by omega⟩
  unfold maxLen at hlc
  rw [HLN.out]
  rw [HLN.out] at hoA
  have hR4 := hR3.set 6 (.slice (some ⟨g, 0, none⟩) L cl)
  have hO4 := hoA.keptS (S := fun b => b ≠ w2.heap.size) (W' := w3.setCell ⟨w2.heap.size, 6, none⟩ (.slice (some ⟨g, 0, none⟩) L cl)) (by intro b hb; simp [Value.ownBlock] at hb; omega) ((Kept.refl _ _).setCell (by simp) _)
  have hB4 := ((hB2.trans ((hBr.alloc (by simp) (.cells #[] 5)).mono hB2.size)).trans (hB3.mono (by have := hB2.size; omega))).setCell (p := ⟨w2.heap.size, 6, none⟩) hB2.size (.slice (some ⟨g, 0, none⟩) L cl)
  have hgw : g < (w3.setCell ⟨w2.heap.size, 6, none⟩ (.slice (some ⟨g, 0, none⟩) L cl)).heap.size := by simp; exact hgl.2.1
  have hg2 : w2.heap.size + 1 ≤ g := hgl.1
  have hs4 : w.heap.size ≤ w2.heap.size := hB2.size
  clear hgl hs3 c6 f6 hR3 hB3 hRe hzE hR hBr hoA how hz hbad
  generalize w3.setCell ⟨w2.heap.size, 6, none⟩ (.slice (some ⟨g, 0, none⟩) L cl) = w4 at *
  have hR4' : Row w4 w2.heap.size 27 (x.rc.cells (some ⟨g, 0, none⟩) L cl) := hR4
  clear hR4
  have r0 := hR4'.cell 0
  have r1 := hR4'.cell 1
  have r2 := hR4'.cell 2
  have r3 := hR4'.cell 3
  have r4 := hR4'.cell 4
  have r5 := hR4'.cell 5
  have r6 := hR4'.cell 6
  simp only [List.getElem?_toArray, List.getElem?_cons_zero, List.getElem?_cons_succ] at r0 r1 r2 r3 r4 r5 r6
  have hor : Op.intBits .or .u64 (x.rc.h 1 : Int) 4503599627370496 = pure (.int .u64 ((lor (x.rc.h 1) 4503599627370496 : Nat) : Int)) := run_or64 (x.rc.h 1) 4503599627370496 (hh64.out 1) (by unfold W64; decide)
  have fJ := hR4'.frozen 1
  go_upto_region 30 with fail
  have hRT0 := hR4'.set 1 (.int .u64 ((lor (x.rc.h 1) 4503599627370496 : Nat) : Int))
  have hBT := hB4.setCell (p := ⟨w2.heap.size, 1, none⟩) hs4 (.int .u64 ((lor (x.rc.h 1) 4503599627370496 : Nat) : Int))
  have hOT := hO4.keptS (S := fun b => b ≠ w2.heap.size) (W' := w4.setCell ⟨w2.heap.size, 1, none⟩ (.int .u64 ((lor (x.rc.h 1) 4503599627370496 : Nat) : Int))) (by intro b hb; simp [Value.ownBlock] at hb; omega) ((Kept.refl _ _).setCell (by simp) _)
  have hgT : g < (w4.setCell ⟨w2.heap.size, 1, none⟩ (.int .u64 ((lor (x.rc.h 1) 4503599627370496 : Nat) : Int))).heap.size := by simp; exact hgw
  clear fJ r0 r1 r2 r3 r4 r5 r6 hO4 hB4 hgw
  generalize w4.setCell ⟨w2.heap.size, 1, none⟩ (.int .u64 ((lor (x.rc.h 1) 4503599627370496 : Nat) : Int)) = wT at *
  have hRT : Row wT w2.heap.size 27 #[.int .u64 (x.rc.h 0 : Int), .int .u64 ((lor (x.rc.h 1) 4503599627370496 : Nat) : Int), .int .u64 (x.rc.h 2 : Int), .int .u64 (x.rc.h 3 : Int), .int .u8 (x.rc.t : Int), .int .u8 (x.rc.d : Int), .slice (some ⟨g, 0, none⟩) L cl] := hRT0
  clear hRT0 hR4'
  have HRV := Lib.hid (right_bad (wrong2 x 4503599627370496 bit52))
  have hokT : ((⟨setH x.rc.h 1 (lor (x.rc.h 1) 4503599627370496), x.rc.t, x.rc.d, x.rc.zs⟩ : Rc)).ok L cl := ⟨fun j => W64.setH hh64.out _ _ ((hh64.out 1).lor (by unfold W64; decide)) j, by show x.rc.t < 256; omega, by show x.rc.d < 256; omega, hlc.1, by have := hlc.2; omega⟩
  have HV : Hid (((⟨setH x.rc.h 1 (lor (x.rc.h 1) 4503599627370496), x.rc.t, x.rc.d, x.rc.zs⟩ : Rc)).v (some ⟨g, 0, none⟩) L cl = .agg #[.int .u64 (x.rc.h 0 : Int), .int .u64 ((lor (x.rc.h 1) 4503599627370496 : Nat) : Int), .int .u64 (x.rc.h 2 : Int), .int .u64 (x.rc.h 3 : Int), .int .u8 (x.rc.t : Int), .int .u8 (x.rc.d : Int), .slice (some ⟨g, 0, none⟩) L cl]) := Lib.hid rfl
  obtain ⟨aT, cT, heT, -, -, -, -, hzT⟩ := OwnU.byt hOT (by rw [HLN.out]; omega) (fun i => by have := getD_lt (n := 52) (by omega) HLT.out i; omega)
  simp only [Value.slice.injEq] at heT
  obtain ⟨rfl, hlT, rfl⟩ := heT
  rw [← hlT] at hzT
  clear hlT
  have hT2 := hBT.size
  have r0 := hRT.cell 0
  have r1 := hRT.cell 1
  have r2 := hRT.cell 2
  have r3 := hRT.cell 3
  have r4 := hRT.cell 4
  have r5 := hRT.cell 5
  have r6 := hRT.cell 6
  simp only [List.getElem?_toArray, List.getElem?_cons_zero, List.getElem?_cons_succ] at r0 r1 r2 r3 r4 r5 r6
  have hc5 := bad_right (some ⟨g, 0, none⟩) L cl wT hokT hzT (fun ad h => by injection h with h; subst h; exact hgT) HRV.out
  try rw [HV.out] at hc5
  have HC5 := Lib.hid hc5
  clear hc5
  go_wp2_with fail
  refine HC5.out.mono ?_
  rintro e w5 ⟨rfl, hb5⟩
  have hR5x := hRT.below hRT.lt hb5
  have hB5x := hBT.trans (hb5.mono hBT.size)
  have hz5x := hzT.below (Nat.le_refl _) hb5
  have hg5x := Nat.lt_of_lt_of_le hgT hb5.size
  clear r0 r1 r2 r3 r4 r5 r6 hRT hBT hzT hgT hb5 HC5
  have r0 := hR5x.cell 0
  have r1 := hR5x.cell 1
  have r2 := hR5x.cell 2
  have r3 := hR5x.cell 3
  have r4 := hR5x.cell 4
  have r5 := hR5x.cell 5
  have r6 := hR5x.cell 6
  simp only [List.getElem?_toArray, List.getElem?_cons_zero, List.getElem?_cons_succ] at r0 r1 r2 r3 r4 r5 r6
  have hc6 := bad_wins (by omega) (some ⟨g, 0, none⟩) L cl w5 hokT hz5x (fun ad h => by injection h with h; subst h; exact hg5x) HRV.out
  try rw [HV.out] at hc6
  have HC6 := Lib.hid hc6
  clear hc6
  go_wp2_with fail
  refine HC6.out.mono ?_
  rintro e w6 ⟨rfl, hb6⟩
  have hR6x := hR5x.below hR5x.lt hb6
  have hB6x := hB5x.trans (hb6.mono hB5x.size)
  have hz6x := hz5x.below (Nat.le_refl _) hb6
  have hg6x := Nat.lt_of_lt_of_le hg5x hb6.size
  clear r0 r1 r2 r3 r4 r5 r6 hR5x hB5x hz5x hg5x hb6 HC6
  have r0 := hR6x.cell 0
  have r1 := hR6x.cell 1
  have r2 := hR6x.cell 2
  have r3 := hR6x.cell 3
  have r4 := hR6x.cell 4
  have r5 := hR6x.cell 5
  have r6 := hR6x.cell 6
  simp only [List.getElem?_toArray, List.getElem?_cons_zero, List.getElem?_cons_succ] at r0 r1 r2 r3 r4 r5 r6
  have hc7 := bad_find (by omega) (some ⟨g, 0, none⟩) L cl w6 hokT hz6x (fun ad h => by injection h with h; subst h; exact hg6x) HRV.out
  try rw [HV.out] at hc7
  have HC7 := Lib.hid hc7
  clear hc7
  go_wp2_with fail
  refine HC7.out.mono ?_
  rintro e w7 ⟨rfl, hb7⟩
  have hR7x := hR6x.below hR6x.lt hb7
  have hB7x := hB6x.trans (hb7.mono hB6x.size)
  have hz7x := hz6x.below (Nat.le_refl _) hb7
  have hg7x := Nat.lt_of_lt_of_le hg6x hb7.size
  clear r0 r1 r2 r3 r4 r5 r6 hR6x hB6x hz6x hg6x hb7 HC7
  have r0 := hR7x.cell 0
  have r1 := hR7x.cell 1
  have r2 := hR7x.cell 2
  have r3 := hR7x.cell 3
  have r4 := hR7x.cell 4
  have r5 := hR7x.cell 5
  have r6 := hR7x.cell 6
  simp only [List.getElem?_toArray, List.getElem?_cons_zero, List.getElem?_cons_succ] at r0 r1 r2 r3 r4 r5 r6
  have hc8 := bad_moved (by omega) (some ⟨g, 0, none⟩) L cl w7 hokT hz7x (fun ad h => by injection h with h; subst h; exact hg7x) (by omega) HRV.out
  try rw [HV.out] at hc8
  have HC8 := Lib.hid hc8
  clear hc8
  go_wp2_with fail
  refine HC8.out.mono ?_
  rintro e w8 ⟨rfl, hb8⟩
  have hR8x := hR7x.below hR7x.lt hb8
  have hB8x := hB7x.trans (hb8.mono hB7x.size)
  have hz8x := hz7x.below (Nat.le_refl _) hb8
  have hg8x := Nat.lt_of_lt_of_le hg7x hb8.size
  clear r0 r1 r2 r3 r4 r5 r6 hR7x hB7x hz7x hg7x hb8 HC8
  have r0 := hR8x.cell 0
  have r1 := hR8x.cell 1
  have r2 := hR8x.cell 2
  have r3 := hR8x.cell 3
  have r4 := hR8x.cell 4
  have r5 := hR8x.cell 5
  have r6 := hR8x.cell 6
  simp only [List.getElem?_toArray, List.getElem?_cons_zero, List.getElem?_cons_succ] at r0 r1 r2 r3 r4 r5 r6
  have hc9 := bad_tricks (by omega) (some ⟨g, 0, none⟩) L cl w8 hokT hz8x (fun ad h => by injection h with h; subst h; exact hg8x) (by omega) HRV.out
  try rw [HV.out] at hc9
  have HC9 := Lib.hid hc9
  clear hc9
  go_wp2_with fail
  refine HC9.out.mono ?_
  rintro e w9 ⟨rfl, hb9⟩
  have hR9x := hR8x.below hR8x.lt hb9
  have hB9x := hB8x.trans (hb9.mono hB8x.size)
  have hz9x := hz8x.below (Nat.le_refl _) hb9
  have hg9x := Nat.lt_of_lt_of_le hg8x hb9.size
  clear r0 r1 r2 r3 r4 r5 r6 hR8x hB8x hz8x hg8x hb9 HC9
  have HB9 := Lib.hid hB9x
  clear hR9x hB9x hz9x hg9x
  go_wp2
  go_ret
  exact ⟨rfl, HB9.out⟩
end Go.Proofs.Ytdlnilebnobllaa

/- The body of finesselaw13.RevokeWrong over this seat's program: way 3. -/
namespace Go.Proofs.Ytdlnilebnobllaa
open Go.RowKit Go.Shelf Go.Sort

set_option maxHeartbeats 2000000 in
set_option maxRecDepth 100000 in
theorem law_RevokeWrong3 (x : Sk) (ao : Option Addr) (lo co : Nat) (ap : Option Addr) (lp cp : Nat) (n : Int) (way : Nat) (w : World) (ho : Byt w ao lo x.order) (hp : Byt w ap lp x.play)
    (hsz : x.size < 256) (htr : x.trumps < 256) (hde : x.decl < 256) (hn64 : -9223372036854775808 ≤ n ∧ n ≤ 9223372036854775807) (hway : way < 256) (hwc : way % 8 = 3) :
    Calls Try.prog 10 #[.agg (x.cells ao lo co ap lp cp), .int .i64 n, .int .u8 (way : Int)] w fun e w' => e = .returned (.bool true) ∧ Below w.heap.size w w' := by
  have hn := x.n_le
  have HA := Lib.hid (show ∀ w1, Calls Try.prog 12 #[] w1 fun e w' => e = .returned (.bool true) ∧ Below w1.heap.size w1 w' from awake_true)
  have HM : Hid (∀ w1, Below w.heap.size w w1 → Calls Try.prog 17 #[.agg (x.cells ao lo co ap lp cp)] w1 fun e w' =>
      ∃ a cap, e = .returned (x.rc.v a (4 * x.n) cap) ∧ x.rc.ok (4 * x.n) cap ∧ Byt w' a (4 * x.n) x.rc.zs ∧ (∀ ad, a = some ad → w1.heap.size ≤ ad.block ∧ ad.block < w'.heap.size) ∧ OwnU w' w1.heap.size (.slice a (4 * x.n) cap) x.rc.zs ∧ Below w1.heap.size w1 w') :=
    fun w1 hb => law_made x ao lo co ap lp cp w1 (ho.below (Nat.le_refl _) hb) (hp.below (Nat.le_refl _) hb) hsz htr hde
  go_enter Try.func10, Try.ntmps10
  go_wp2_with fail
  have hB0 := (Below.refl w.heap.size w).alloc (Nat.le_refl _) (.cells (x.cells ao lo co ap lp cp) 36)
  have hX := Row.new w 36 (x.cells ao lo co ap lp cp)
  refine (HA.out _).mono ?_
  rintro e w1 ⟨rfl, hb1⟩
  have hB1 := hB0.trans (hb1.mono hB0.size)
  have hX1 := hX.below hX.lt hb1
  clear hX hB0 hb1
  have x0 := hX1.cell 0
  have x1 := hX1.cell 1
  have x2 := hX1.cell 2
  have x3 := hX1.cell 3
  have x4 := hX1.cell 4
  have x5 := hX1.cell 5
  simp only [List.getElem?_toArray, List.getElem?_cons_zero, List.getElem?_cons_succ] at x0 x1 x2 x3 x4 x5
  go_wp2_with fail
  refine (HM.out w1 hB1).mono ?_
  rintro e w2 ⟨a, cap, rfl, hok, hz, hab, how, hb2⟩
  have hB2 := hB1.trans (hb2.mono hB1.size)
  have hR := Row.new w2 27 (x.rc.cells a (4 * x.n) cap)
  have hBr : Below w2.heap.size w2 (w2.alloc (.cells (x.rc.cells a (4 * x.n) cap) 27)) := (Below.refl _ _).alloc (Nat.le_refl _) _
  have hzB : ∀ w3, Below w2.heap.size w2 w3 → Byt w3 a (4 * x.n) x.rc.zs ∧ ∀ ad, a = some ad → ad.block < w3.heap.size := fun w3 h => ⟨hz.below (Nat.le_refl _) h, fun ad he => Nat.lt_of_lt_of_le (hab ad he).2 h.size⟩
  clear x0 x1 x2 x3 x4 x5 hX1 HA HM
  obtain ⟨L, hL⟩ : ∃ L, L = 4 * x.n := ⟨_, rfl⟩
  have hL24 : L ≤ 24 := by omega
  have hL0 : 0 < L := by omega
  obtain ⟨k, hk⟩ : ∃ k : Nat, (k : Int) = IntKind.u64.wrap n % (L : Int) := ⟨(IntKind.u64.wrap n % (L : Int)).toNat, by rw [Int.toNat_of_nonneg (Int.emod_nonneg _ (by omega))]⟩
  have hkL : k < L := by have := Int.emod_lt_of_pos (IntKind.u64.wrap n) (show (0 : Int) < (L : Int) by omega); omega
  have hkE : (IntKind.u64.wrap n).tmod (L : Int) = (k : Int) := by rw [Int.tmod_eq_emod_of_nonneg (by rw [IntKind.wrap_u64]; omega)]; exact hk.symm
  have hw8 : (way : Int) % 8 = 3 := by omega
  have hln := made_len x
  have HLT := Lib.hid (made_lt x)
  have hrd3 : x.rc.d ≤ 3 := dealt_d (made_dealt x)
  have hrt4 := (made_td x).1
  have hh64 := Lib.hid (made_w64 x)
  obtain ⟨q, hq⟩ : ∃ q : Nat, (q : Int) = n % 128 := ⟨(n % 128).toNat, by omega⟩
  have hq128 : q < 128 := by omega
  have hqI : n % 128 = (q : Int) := hq.symm
  have HN64 := Lib.hid hn64
  have hno := how.len
  obtain ⟨ad, hadE⟩ : ∃ ad, a = some ad := by
    cases a with
    | none => rcases hz.cells with h | ⟨_, _, h, _⟩; exact absurd h (by omega); cases h
    | some ad => exact ⟨ad, rfl⟩
  subst hadE
  rw [← hL] at hln hok hz how hR hBr hzB ⊢
  have HL := Lib.hid hL
  have HLN := Lib.hid hln
  have hbad := (hab ad rfl).2
  clear hL hk hq hn64 hn hwc hno hok hab hzB hln
  have hRe := hR.alloc (.cells #[] 5)
  have hzE := hz.below (Nat.le_refl _) (hBr.alloc (by simp) (.cells #[] 5))
  have hown0 := ownU_made0 (w2.alloc (.cells (x.rc.cells (some ad) L cap) 27)) (w2.heap.size + 1) (by rw [World.size_alloc]; exact Nat.le_refl _)
  rw [World.size_alloc] at hown0
  have hbs0 : w2.heap.size + 1 ≤ ((w2.alloc (.cells (x.rc.cells (some ad) L cap) 27)).alloc (.cells #[] 5)).heap.size := by rw [World.size_alloc, World.size_alloc]; omega
  have hby0 : ([] : List Nat).length + L ≤ 140737488355328 := by show 0 + L ≤ _; omega
  go_upto_region 5 with (at_builtin; go_loud (refine appU rfl (.tmp 29) (.tmp 31) rfl (w2.heap.size + 1) _ [] x.rc.zs rfl hown0 ad L cap rfl hzE hby0 hbs0 ?_); go_loud (intro v' w3 hoA hB3 hx1 hx2; clear hx1 hx2; rw [List.nil_append] at hoA); go_loud (obtain ⟨al, cl, hv, hne⟩ := hoA.slice; obtain ⟨g, hg⟩ := hne (by intro e; have := HLN.out; rw [e] at this; simp at this; omega); subst hv; subst hg); go_loud (have hR3 := hRe.below (by omega) hB3; have c6 := hR3.cell 6; have f6 := hR3.frozen 6); (try simp only [List.getElem?_toArray, List.getElem?_cons_zero, List.getElem?_cons_succ] at c6); go_loud ( have hgl := (hoA.row (g := g) rfl)); go_loud (have hs3 := hB3.size; try simp only [World.size_alloc] at hs3))
  have hlc : L ≤ cl ∧ cl ≤ maxLen := by
    rcases hoA.form with ⟨h1, _⟩ | ⟨g', c', h1, _, _, h2, h3⟩
    · cases h1
    · simp only [Value.slice.injEq] at h1
      rw [HLN.out] at h2
      exact ⟨by omega, by omega⟩
  unfold maxLen at hlc
  rw [HLN.out]
  rw [HLN.out] at hoA
  have hR4 := hR3.set 6 (.slice (some ⟨g, 0, none⟩) L cl)
  have hO4 := hoA.keptS (S := fun b => b ≠ w2.heap.size) (W' := w3.setCell ⟨w2.heap.size, 6, none⟩ (.slice (some ⟨g, 0, none⟩) L cl)) (by intro b hb; simp [Value.ownBlock] at hb; omega) ((Kept.refl _ _).setCell (by simp) _)
  have hB4 := ((hB2.trans ((hBr.alloc (by simp) (.cells #[] 5)).mono hB2.size)).trans (hB3.mono (by have := hB2.size; omega))).setCell (p := ⟨w2.heap.size, 6, none⟩) hB2.size (.slice (some ⟨g, 0, none⟩) L cl)
  have hgw : g < (w3.setCell ⟨w2.heap.size, 6, none⟩ (.slice (some ⟨g, 0, none⟩) L cl)).heap.size := by simp; exact hgl.2.1
  have hg2 : w2.heap.size + 1 ≤ g := hgl.1
  have hs4 : w.heap.size ≤ w2.heap.size := hB2.size
  clear hgl hs3 c6 f6 hR3 hB3 hRe hzE hR hBr hoA how hz hbad
  generalize w3.setCell ⟨w2.heap.size, 6, none⟩ (.slice (some ⟨g, 0, none⟩) L cl) = w4 at *
  have hR4' : Row w4 w2.heap.size 27 (x.rc.cells (some ⟨g, 0, none⟩) L cl) := hR4
  clear hR4
  have r0 := hR4'.cell 0
  have r1 := hR4'.cell 1
  have r2 := hR4'.cell 2
  have r3 := hR4'.cell 3
  have r4 := hR4'.cell 4
  have r5 := hR4'.cell 5
  have r6 := hR4'.cell 6
  simp only [List.getElem?_toArray, List.getElem?_cons_zero, List.getElem?_cons_succ] at r0 r1 r2 r3 r4 r5 r6
  have hand := and127 n
  rw [hqI] at hand
  have fJ := hR4'.frozen 4
  go_upto_region 30 with fail
  have hRT0 := hR4'.set 4 (.int .u8 (5 + (q : Int)))
  have hBT := hB4.setCell (p := ⟨w2.heap.size, 4, none⟩) hs4 (.int .u8 (5 + (q : Int)))
  have hOT := hO4.keptS (S := fun b => b ≠ w2.heap.size) (W' := w4.setCell ⟨w2.heap.size, 4, none⟩ (.int .u8 (5 + (q : Int)))) (by intro b hb; simp [Value.ownBlock] at hb; omega) ((Kept.refl _ _).setCell (by simp) _)
  have hgT : g < (w4.setCell ⟨w2.heap.size, 4, none⟩ (.int .u8 (5 + (q : Int)))).heap.size := by simp; exact hgw
  clear fJ r0 r1 r2 r3 r4 r5 r6 hO4 hB4 hgw
  generalize w4.setCell ⟨w2.heap.size, 4, none⟩ (.int .u8 (5 + (q : Int))) = wT at *
  have hRT : Row wT w2.heap.size 27 #[.int .u64 (x.rc.h 0 : Int), .int .u64 (x.rc.h 1 : Int), .int .u64 (x.rc.h 2 : Int), .int .u64 (x.rc.h 3 : Int), .int .u8 (5 + (q : Int)), .int .u8 (x.rc.d : Int), .slice (some ⟨g, 0, none⟩) L cl] := hRT0
  clear hRT0 hR4'
  have HRV := Lib.hid (right_bad (wrong3 x (5 + q) (by omega)))
  have hokT : ((⟨x.rc.h, 5 + q, x.rc.d, x.rc.zs⟩ : Rc)).ok L cl := ⟨fun j => hh64.out j, by show 5 + q < 256; omega, by show x.rc.d < 256; omega, hlc.1, by have := hlc.2; omega⟩
  have HV : Hid (((⟨x.rc.h, 5 + q, x.rc.d, x.rc.zs⟩ : Rc)).v (some ⟨g, 0, none⟩) L cl = .agg #[.int .u64 (x.rc.h 0 : Int), .int .u64 (x.rc.h 1 : Int), .int .u64 (x.rc.h 2 : Int), .int .u64 (x.rc.h 3 : Int), .int .u8 (5 + (q : Int)), .int .u8 (x.rc.d : Int), .slice (some ⟨g, 0, none⟩) L cl]) := Lib.hid rfl
  obtain ⟨aT, cT, heT, -, -, -, -, hzT⟩ := OwnU.byt hOT (by rw [HLN.out]; omega) (fun i => by have := getD_lt (n := 52) (by omega) HLT.out i; omega)
  simp only [Value.slice.injEq] at heT
  obtain ⟨rfl, hlT, rfl⟩ := heT
  rw [← hlT] at hzT
  clear hlT
  have hT2 := hBT.size
  have r0 := hRT.cell 0
  have r1 := hRT.cell 1
  have r2 := hRT.cell 2
  have r3 := hRT.cell 3
  have r4 := hRT.cell 4
  have r5 := hRT.cell 5
  have r6 := hRT.cell 6
  simp only [List.getElem?_toArray, List.getElem?_cons_zero, List.getElem?_cons_succ] at r0 r1 r2 r3 r4 r5 r6
  have hc5 := bad_right (some ⟨g, 0, none⟩) L cl wT hokT hzT (fun ad h => by injection h with h; subst h; exact hgT) HRV.out
  try rw [HV.out] at hc5
  have HC5 := Lib.hid hc5
  clear hc5
  go_wp2_with fail
  refine HC5.out.mono ?_
  rintro e w5 ⟨rfl, hb5⟩
  have hR5x := hRT.below hRT.lt hb5
  have hB5x := hBT.trans (hb5.mono hBT.size)
  have hz5x := hzT.below (Nat.le_refl _) hb5
  have hg5x := Nat.lt_of_lt_of_le hgT hb5.size
  clear r0 r1 r2 r3 r4 r5 r6 hRT hBT hzT hgT hb5 HC5
  have r0 := hR5x.cell 0
  have r1 := hR5x.cell 1
  have r2 := hR5x.cell 2
  have r3 := hR5x.cell 3
  have r4 := hR5x.cell 4
  have r5 := hR5x.cell 5
  have r6 := hR5x.cell 6
  simp only [List.getElem?_toArray, List.getElem?_cons_zero, List.getElem?_cons_succ] at r0 r1 r2 r3 r4 r5 r6
  have hc6 := bad_wins (by omega) (some ⟨g, 0, none⟩) L cl w5 hokT hz5x (fun ad h => by injection h with h; subst h; exact hg5x) HRV.out
  try rw [HV.out] at hc6
  have HC6 := Lib.hid hc6
  clear hc6
  go_wp2_with fail
  refine HC6.out.mono ?_
  rintro e w6 ⟨rfl, hb6⟩
  have hR6x := hR5x.below hR5x.lt hb6
  have hB6x := hB5x.trans (hb6.mono hB5x.size)
  have hz6x := hz5x.below (Nat.le_refl _) hb6
  have hg6x := Nat.lt_of_lt_of_le hg5x hb6.size
  clear r0 r1 r2 r3 r4 r5 r6 hR5x hB5x hz5x hg5x hb6 HC6
  have r0 := hR6x.cell 0
  have r1 := hR6x.cell 1
  have r2 := hR6x.cell 2
  have r3 := hR6x.cell 3
  have r4 := hR6x.cell 4
  have r5 := hR6x.cell 5
  have r6 := hR6x.cell 6
  simp only [List.getElem?_toArray, List.getElem?_cons_zero, List.getElem?_cons_succ] at r0 r1 r2 r3 r4 r5 r6
  have hc7 := bad_find (by omega) (some ⟨g, 0, none⟩) L cl w6 hokT hz6x (fun ad h => by injection h with h; subst h; exact hg6x) HRV.out
  try rw [HV.out] at hc7
  have HC7 := Lib.hid hc7
  clear hc7
  go_wp2_with fail
  refine HC7.out.mono ?_
  rintro e w7 ⟨rfl, hb7⟩
  have hR7x := hR6x.below hR6x.lt hb7
  have hB7x := hB6x.trans (hb7.mono hB6x.size)
  have hz7x := hz6x.below (Nat.le_refl _) hb7
  have hg7x := Nat.lt_of_lt_of_le hg6x hb7.size
  clear r0 r1 r2 r3 r4 r5 r6 hR6x hB6x hz6x hg6x hb7 HC7
  have r0 := hR7x.cell 0
  have r1 := hR7x.cell 1
  have r2 := hR7x.cell 2
  have r3 := hR7x.cell 3
  have r4 := hR7x.cell 4
  have r5 := hR7x.cell 5
  have r6 := hR7x.cell 6
  simp only [List.getElem?_toArray, List.getElem?_cons_zero, List.getElem?_cons_succ] at r0 r1 r2 r3 r4 r5 r6
  have hc8 := bad_moved (by omega) (some ⟨g, 0, none⟩) L cl w7 hokT hz7x (fun ad h => by injection h with h; subst h; exact hg7x) (by omega) HRV.out
  try rw [HV.out] at hc8
  have HC8 := Lib.hid hc8
  clear hc8
  go_wp2_with fail
  refine HC8.out.mono ?_
  rintro e w8 ⟨rfl, hb8⟩
  have hR8x := hR7x.below hR7x.lt hb8
  have hB8x := hB7x.trans (hb8.mono hB7x.size)
  have hz8x := hz7x.below (Nat.le_refl _) hb8
  have hg8x := Nat.lt_of_lt_of_le hg7x hb8.size
  clear r0 r1 r2 r3 r4 r5 r6 hR7x hB7x hz7x hg7x hb8 HC8
  have r0 := hR8x.cell 0
  have r1 := hR8x.cell 1
  have r2 := hR8x.cell 2
  have r3 := hR8x.cell 3
  have r4 := hR8x.cell 4
  have r5 := hR8x.cell 5
  have r6 := hR8x.cell 6
  simp only [List.getElem?_toArray, List.getElem?_cons_zero, List.getElem?_cons_succ] at r0 r1 r2 r3 r4 r5 r6
  have hc9 := bad_tricks (by omega) (some ⟨g, 0, none⟩) L cl w8 hokT hz8x (fun ad h => by injection h with h; subst h; exact hg8x) (by omega) HRV.out
  try rw [HV.out] at hc9
  have HC9 := Lib.hid hc9
  clear hc9
  go_wp2_with fail
  refine HC9.out.mono ?_
  rintro e w9 ⟨rfl, hb9⟩
  have hR9x := hR8x.below hR8x.lt hb9
  have hB9x := hB8x.trans (hb9.mono hB8x.size)
  have hz9x := hz8x.below (Nat.le_refl _) hb9
  have hg9x := Nat.lt_of_lt_of_le hg8x hb9.size
  clear r0 r1 r2 r3 r4 r5 r6 hR8x hB8x hz8x hg8x hb9 HC9
  have HB9 := Lib.hid hB9x
  clear hR9x hB9x hz9x hg9x
  go_wp2
  go_ret
  exact ⟨rfl, HB9.out⟩
end Go.Proofs.Ytdlnilebnobllaa

/- The body of finesselaw13.RevokeWrong over this seat's program: way 4. -/
namespace Go.Proofs.Ytdlnilebnobllaa
open Go.RowKit Go.Shelf Go.Sort

set_option maxHeartbeats 2000000 in
set_option maxRecDepth 100000 in
theorem law_RevokeWrong4 (x : Sk) (ao : Option Addr) (lo co : Nat) (ap : Option Addr) (lp cp : Nat) (n : Int) (way : Nat) (w : World) (ho : Byt w ao lo x.order) (hp : Byt w ap lp x.play)
    (hsz : x.size < 256) (htr : x.trumps < 256) (hde : x.decl < 256) (hn64 : -9223372036854775808 ≤ n ∧ n ≤ 9223372036854775807) (hway : way < 256) (hwc : way % 8 = 4) :
    Calls Try.prog 10 #[.agg (x.cells ao lo co ap lp cp), .int .i64 n, .int .u8 (way : Int)] w fun e w' => e = .returned (.bool true) ∧ Below w.heap.size w w' := by
  have hn := x.n_le
  have HA := Lib.hid (show ∀ w1, Calls Try.prog 12 #[] w1 fun e w' => e = .returned (.bool true) ∧ Below w1.heap.size w1 w' from awake_true)
  have HM : Hid (∀ w1, Below w.heap.size w w1 → Calls Try.prog 17 #[.agg (x.cells ao lo co ap lp cp)] w1 fun e w' =>
      ∃ a cap, e = .returned (x.rc.v a (4 * x.n) cap) ∧ x.rc.ok (4 * x.n) cap ∧ Byt w' a (4 * x.n) x.rc.zs ∧ (∀ ad, a = some ad → w1.heap.size ≤ ad.block ∧ ad.block < w'.heap.size) ∧ OwnU w' w1.heap.size (.slice a (4 * x.n) cap) x.rc.zs ∧ Below w1.heap.size w1 w') :=
    fun w1 hb => law_made x ao lo co ap lp cp w1 (ho.below (Nat.le_refl _) hb) (hp.below (Nat.le_refl _) hb) hsz htr hde
  go_enter Try.func10, Try.ntmps10
  go_wp2_with fail
  have hB0 := (Below.refl w.heap.size w).alloc (Nat.le_refl _) (.cells (x.cells ao lo co ap lp cp) 36)
  have hX := Row.new w 36 (x.cells ao lo co ap lp cp)
  refine (HA.out _).mono ?_
  rintro e w1 ⟨rfl, hb1⟩
  have hB1 := hB0.trans (hb1.mono hB0.size)
  have hX1 := hX.below hX.lt hb1
  clear hX hB0 hb1
  have x0 := hX1.cell 0
  have x1 := hX1.cell 1
  have x2 := hX1.cell 2
  have x3 := hX1.cell 3
  have x4 := hX1.cell 4
  have x5 := hX1.cell 5
  simp only [List.getElem?_toArray, List.getElem?_cons_zero, List.getElem?_cons_succ] at x0 x1 x2 x3 x4 x5
  go_wp2_with fail
  refine (HM.out w1 hB1).mono ?_
  rintro e w2 ⟨a, cap, rfl, hok, hz, hab, how, hb2⟩
  have hB2 := hB1.trans (hb2.mono hB1.size)
  have hR := Row.new w2 27 (x.rc.cells a (4 * x.n) cap)
  have hBr : Below w2.heap.size w2 (w2.alloc (.cells (x.rc.cells a (4 * x.n) cap) 27)) := (Below.refl _ _).alloc (Nat.le_refl _) _
  have hzB : ∀ w3, Below w2.heap.size w2 w3 → Byt w3 a (4 * x.n) x.rc.zs ∧ ∀ ad, a = some ad → ad.block < w3.heap.size := fun w3 h => ⟨hz.below (Nat.le_refl _) h, fun ad he => Nat.lt_of_lt_of_le (hab ad he).2 h.size⟩
  clear x0 x1 x2 x3 x4 x5 hX1 HA HM
  obtain ⟨L, hL⟩ : ∃ L, L = 4 * x.n := ⟨_, rfl⟩
  have hL24 : L ≤ 24 := by omega
  have hL0 : 0 < L := by omega
  obtain ⟨k, hk⟩ : ∃ k : Nat, (k : Int) = IntKind.u64.wrap n % (L : Int) := ⟨(IntKind.u64.wrap n % (L : Int)).toNat, by rw [Int.toNat_of_nonneg (Int.emod_nonneg _ (by omega))]⟩
  have hkL : k < L := by have := Int.emod_lt_of_pos (IntKind.u64.wrap n) (show (0 : Int) < (L : Int) by omega); omega
  have hkE : (IntKind.u64.wrap n).tmod (L : Int) = (k : Int) := by rw [Int.tmod_eq_emod_of_nonneg (by rw [IntKind.wrap_u64]; omega)]; exact hk.symm
  have hw8 : (way : Int) % 8 = 4 := by omega
  have hln := made_len x
  have HLT := Lib.hid (made_lt x)
  have hrd3 : x.rc.d ≤ 3 := dealt_d (made_dealt x)
  have hrt4 := (made_td x).1
  have hh64 := Lib.hid (made_w64 x)
  obtain ⟨q, hq⟩ : ∃ q : Nat, (q : Int) = n % 128 := ⟨(n % 128).toNat, by omega⟩
  have hq128 : q < 128 := by omega
  have hqI : n % 128 = (q : Int) := hq.symm
  have HN64 := Lib.hid hn64
  have hno := how.len
  obtain ⟨ad, hadE⟩ : ∃ ad, a = some ad := by
    cases a with
    | none => rcases hz.cells with h | ⟨_, _, h, _⟩; exact absurd h (by omega); cases h
    | some ad => exact ⟨ad, rfl⟩
  subst hadE
  rw [← hL] at hln hok hz how hR hBr hzB ⊢
  have HL := Lib.hid hL
  have HLN := Lib.hid hln
  have hbad := (hab ad rfl).2
  clear hL hk hq hn64 hn hwc hno hok hab hzB hln
  have hRe := hR.alloc (.cells #[] 5)
  have hzE := hz.below (Nat.le_refl _) (hBr.alloc (by simp) (.cells #[] 5))
  have hown0 := ownU_made0 (w2.alloc (.cells (x.rc.cells (some ad) L cap) 27)) (w2.heap.size + 1) (by rw [World.size_alloc]; exact Nat.le_refl _)
  rw [World.size_alloc] at hown0
  have hbs0 : w2.heap.size + 1 ≤ ((w2.alloc (.cells (x.rc.cells (some ad) L cap) 27)).alloc (.cells #[] 5)).heap.size := by rw [World.size_alloc, World.size_alloc]; omega
  have hby0 : ([] : List Nat).length + L ≤ 140737488355328 := by show 0 + L ≤ _; omega
  go_upto_region 5 with (at_builtin; go_loud (refine appU rfl (.tmp 29) (.tmp 31) rfl (w2.heap.size + 1) _ [] x.rc.zs rfl hown0 ad L cap rfl hzE hby0 hbs0 ?_); go_loud (intro v' w3 hoA hB3 hx1 hx2; clear hx1 hx2; rw [List.nil_append] at hoA); go_loud (obtain ⟨al, cl, hv, hne⟩ := hoA.slice; obtain ⟨g, hg⟩ := hne (by intro e; have := HLN.out; rw [e] at this; simp at this; omega); subst hv; subst hg); go_loud (have hR3 := hRe.below (by omega) hB3; have c6 := hR3.cell 6; have f6 := hR3.frozen 6); (try simp only [List.getElem?_toArray, List.getElem?_cons_zero, List.getElem?_cons_succ] at c6); go_loud ( have hgl := (hoA.row (g := g) rfl)); go_loud (have hs3 := hB3.size; try simp only [World.size_alloc] at hs3))
  have hlc : L ≤ cl ∧ cl ≤ maxLen := by
    rcases hoA.form with ⟨h1, _⟩ | ⟨g', c', h1, _, _, h2, h3⟩
    · cases h1
    · simp only [Value.slice.injEq] at h1
      rw [HLN.out] at h2
      exact ⟨by omega, by omega⟩
  unfold maxLen at hlc
  rw [HLN.out]
  rw [HLN.out] at hoA
  have hR4 := hR3.set 6 (.slice (some ⟨g, 0, none⟩) L cl)
  have hO4 := hoA.keptS (S := fun b => b ≠ w2.heap.size) (W' := w3.setCell ⟨w2.heap.size, 6, none⟩ (.slice (some ⟨g, 0, none⟩) L cl)) (by intro b hb; simp [Value.ownBlock] at hb; omega) ((Kept.refl _ _).setCell (by simp) _)
  have hB4 := ((hB2.trans ((hBr.alloc (by simp) (.cells #[] 5)).mono hB2.size)).trans (hB3.mono (by have := hB2.size; omega))).setCell (p := ⟨w2.heap.size, 6, none⟩) hB2.size (.slice (some ⟨g, 0, none⟩) L cl)
  have hgw : g < (w3.setCell ⟨w2.heap.size, 6, none⟩ (.slice (some ⟨g, 0, none⟩) L cl)).heap.size := by simp; exact hgl.2.1
  have hg2 : w2.heap.size + 1 ≤ g := hgl.1
  have hs4 : w.heap.size ≤ w2.heap.size := hB2.size
  clear hgl hs3 c6 f6 hR3 hB3 hRe hzE hR hBr hoA how hz hbad
  generalize w3.setCell ⟨w2.heap.size, 6, none⟩ (.slice (some ⟨g, 0, none⟩) L cl) = w4 at *
  have hR4' : Row w4 w2.heap.size 27 (x.rc.cells (some ⟨g, 0, none⟩) L cl) := hR4
  clear hR4
  have r0 := hR4'.cell 0
  have r1 := hR4'.cell 1
  have r2 := hR4'.cell 2
  have r3 := hR4'.cell 3
  have r4 := hR4'.cell 4
  have r5 := hR4'.cell 5
  have r6 := hR4'.cell 6
  simp only [List.getElem?_toArray, List.getElem?_cons_zero, List.getElem?_cons_succ] at r0 r1 r2 r3 r4 r5 r6
  have hand := and127 n
  rw [hqI] at hand
  have fJ := hR4'.frozen 5
  go_upto_region 30 with fail
  have hRT0 := hR4'.set 5 (.int .u8 (4 + (q : Int)))
  have hBT := hB4.setCell (p := ⟨w2.heap.size, 5, none⟩) hs4 (.int .u8 (4 + (q : Int)))
  have hOT := hO4.keptS (S := fun b => b ≠ w2.heap.size) (W' := w4.setCell ⟨w2.heap.size, 5, none⟩ (.int .u8 (4 + (q : Int)))) (by intro b hb; simp [Value.ownBlock] at hb; omega) ((Kept.refl _ _).setCell (by simp) _)
  have hgT : g < (w4.setCell ⟨w2.heap.size, 5, none⟩ (.int .u8 (4 + (q : Int)))).heap.size := by simp; exact hgw
  clear fJ r0 r1 r2 r3 r4 r5 r6 hO4 hB4 hgw
  generalize w4.setCell ⟨w2.heap.size, 5, none⟩ (.int .u8 (4 + (q : Int))) = wT at *
  have hRT : Row wT w2.heap.size 27 #[.int .u64 (x.rc.h 0 : Int), .int .u64 (x.rc.h 1 : Int), .int .u64 (x.rc.h 2 : Int), .int .u64 (x.rc.h 3 : Int), .int .u8 (x.rc.t : Int), .int .u8 (4 + (q : Int)), .slice (some ⟨g, 0, none⟩) L cl] := hRT0
  clear hRT0 hR4'
  have HRV := Lib.hid (right_bad (wrong4 x (4 + q) (by omega)))
  have hokT : ((⟨x.rc.h, x.rc.t, 4 + q, x.rc.zs⟩ : Rc)).ok L cl := ⟨fun j => hh64.out j, by show x.rc.t < 256; omega, by show 4 + q < 256; omega, hlc.1, by have := hlc.2; omega⟩
  have HV : Hid (((⟨x.rc.h, x.rc.t, 4 + q, x.rc.zs⟩ : Rc)).v (some ⟨g, 0, none⟩) L cl = .agg #[.int .u64 (x.rc.h 0 : Int), .int .u64 (x.rc.h 1 : Int), .int .u64 (x.rc.h 2 : Int), .int .u64 (x.rc.h 3 : Int), .int .u8 (x.rc.t : Int), .int .u8 (4 + (q : Int)), .slice (some ⟨g, 0, none⟩) L cl]) := Lib.hid rfl
  obtain ⟨aT, cT, heT, -, -, -, -, hzT⟩ := OwnU.byt hOT (by rw [HLN.out]; omega) (fun i => by have := getD_lt (n := 52) (by omega) HLT.out i; omega)
  simp only [Value.slice.injEq] at heT
  obtain ⟨rfl, hlT, rfl⟩ := heT
  rw [← hlT] at hzT
  clear hlT
  have hT2 := hBT.size
  have r0 := hRT.cell 0
  have r1 := hRT.cell 1
  have r2 := hRT.cell 2
  have r3 := hRT.cell 3
  have r4 := hRT.cell 4
  have r5 := hRT.cell 5
  have r6 := hRT.cell 6
  simp only [List.getElem?_toArray, List.getElem?_cons_zero, List.getElem?_cons_succ] at r0 r1 r2 r3 r4 r5 r6
  have hc5 := bad_right (some ⟨g, 0, none⟩) L cl wT hokT hzT (fun ad h => by injection h with h; subst h; exact hgT) HRV.out
  try rw [HV.out] at hc5
  have HC5 := Lib.hid hc5
  clear hc5
  go_wp2_with fail
  refine HC5.out.mono ?_
  rintro e w5 ⟨rfl, hb5⟩
  have hR5x := hRT.below hRT.lt hb5
  have hB5x := hBT.trans (hb5.mono hBT.size)
  have hz5x := hzT.below (Nat.le_refl _) hb5
  have hg5x := Nat.lt_of_lt_of_le hgT hb5.size
  clear r0 r1 r2 r3 r4 r5 r6 hRT hBT hzT hgT hb5 HC5
  have r0 := hR5x.cell 0
  have r1 := hR5x.cell 1
  have r2 := hR5x.cell 2
  have r3 := hR5x.cell 3
  have r4 := hR5x.cell 4
  have r5 := hR5x.cell 5
  have r6 := hR5x.cell 6
  simp only [List.getElem?_toArray, List.getElem?_cons_zero, List.getElem?_cons_succ] at r0 r1 r2 r3 r4 r5 r6
  have hc6 := bad_wins (by omega) (some ⟨g, 0, none⟩) L cl w5 hokT hz5x (fun ad h => by injection h with h; subst h; exact hg5x) HRV.out
  try rw [HV.out] at hc6
  have HC6 := Lib.hid hc6
  clear hc6
  go_wp2_with fail
  refine HC6.out.mono ?_
  rintro e w6 ⟨rfl, hb6⟩
  have hR6x := hR5x.below hR5x.lt hb6
  have hB6x := hB5x.trans (hb6.mono hB5x.size)
  have hz6x := hz5x.below (Nat.le_refl _) hb6
  have hg6x := Nat.lt_of_lt_of_le hg5x hb6.size
  clear r0 r1 r2 r3 r4 r5 r6 hR5x hB5x hz5x hg5x hb6 HC6
  have r0 := hR6x.cell 0
  have r1 := hR6x.cell 1
  have r2 := hR6x.cell 2
  have r3 := hR6x.cell 3
  have r4 := hR6x.cell 4
  have r5 := hR6x.cell 5
  have r6 := hR6x.cell 6
  simp only [List.getElem?_toArray, List.getElem?_cons_zero, List.getElem?_cons_succ] at r0 r1 r2 r3 r4 r5 r6
  have hc7 := bad_find (by omega) (some ⟨g, 0, none⟩) L cl w6 hokT hz6x (fun ad h => by injection h with h; subst h; exact hg6x) HRV.out
  try rw [HV.out] at hc7
  have HC7 := Lib.hid hc7
  clear hc7
  go_wp2_with fail
  refine HC7.out.mono ?_
  rintro e w7 ⟨rfl, hb7⟩
  have hR7x := hR6x.below hR6x.lt hb7
  have hB7x := hB6x.trans (hb7.mono hB6x.size)
  have hz7x := hz6x.below (Nat.le_refl _) hb7
  have hg7x := Nat.lt_of_lt_of_le hg6x hb7.size
  clear r0 r1 r2 r3 r4 r5 r6 hR6x hB6x hz6x hg6x hb7 HC7
  have r0 := hR7x.cell 0
  have r1 := hR7x.cell 1
  have r2 := hR7x.cell 2
  have r3 := hR7x.cell 3
  have r4 := hR7x.cell 4
  have r5 := hR7x.cell 5
  have r6 := hR7x.cell 6
  simp only [List.getElem?_toArray, List.getElem?_cons_zero, List.getElem?_cons_succ] at r0 r1 r2 r3 r4 r5 r6
  have hc8 := bad_moved (by omega) (some ⟨g, 0, none⟩) L cl w7 hokT hz7x (fun ad h => by injection h with h; subst h; exact hg7x) (by omega) HRV.out
  try rw [HV.out] at hc8
  have HC8 := Lib.hid hc8
  clear hc8
  go_wp2_with fail
  refine HC8.out.mono ?_
  rintro e w8 ⟨rfl, hb8⟩
  have hR8x := hR7x.below hR7x.lt hb8
  have hB8x := hB7x.trans (hb8.mono hB7x.size)
  have hz8x := hz7x.below (Nat.le_refl _) hb8
  have hg8x := Nat.lt_of_lt_of_le hg7x hb8.size
  clear r0 r1 r2 r3 r4 r5 r6 hR7x hB7x hz7x hg7x hb8 HC8
  have r0 := hR8x.cell 0
  have r1 := hR8x.cell 1
  have r2 := hR8x.cell 2
  have r3 := hR8x.cell 3
  have r4 := hR8x.cell 4
  have r5 := hR8x.cell 5
  have r6 := hR8x.cell 6
  simp only [List.getElem?_toArray, List.getElem?_cons_zero, List.getElem?_cons_succ] at r0 r1 r2 r3 r4 r5 r6
  have hc9 := bad_tricks (by omega) (some ⟨g, 0, none⟩) L cl w8 hokT hz8x (fun ad h => by injection h with h; subst h; exact hg8x) (by omega) HRV.out
  try rw [HV.out] at hc9
  have HC9 := Lib.hid hc9
  clear hc9
  go_wp2_with fail
  refine HC9.out.mono ?_
  rintro e w9 ⟨rfl, hb9⟩
  have hR9x := hR8x.below hR8x.lt hb9
  have hB9x := hB8x.trans (hb9.mono hB8x.size)
  have hz9x := hz8x.below (Nat.le_refl _) hb9
  have hg9x := Nat.lt_of_lt_of_le hg8x hb9.size
  clear r0 r1 r2 r3 r4 r5 r6 hR8x hB8x hz8x hg8x hb9 HC9
  have HB9 := Lib.hid hB9x
  clear hR9x hB9x hz9x hg9x
  go_wp2
  go_ret
  exact ⟨rfl, HB9.out⟩
end Go.Proofs.Ytdlnilebnobllaa

/- The body of finesselaw13.RevokeWrong over this seat's program: way 5. -/
namespace Go.Proofs.Ytdlnilebnobllaa
open Go.RowKit Go.Shelf Go.Sort

set_option maxHeartbeats 2000000 in
set_option maxRecDepth 100000 in
theorem law_RevokeWrong5 (x : Sk) (ao : Option Addr) (lo co : Nat) (ap : Option Addr) (lp cp : Nat) (n : Int) (way : Nat) (w : World) (ho : Byt w ao lo x.order) (hp : Byt w ap lp x.play)
    (hsz : x.size < 256) (htr : x.trumps < 256) (hde : x.decl < 256) (hn64 : -9223372036854775808 ≤ n ∧ n ≤ 9223372036854775807) (hway : way < 256) (hwc : way % 8 = 5) :
    Calls Try.prog 10 #[.agg (x.cells ao lo co ap lp cp), .int .i64 n, .int .u8 (way : Int)] w fun e w' => e = .returned (.bool true) ∧ Below w.heap.size w w' := by
  have hn := x.n_le
  have HA := Lib.hid (show ∀ w1, Calls Try.prog 12 #[] w1 fun e w' => e = .returned (.bool true) ∧ Below w1.heap.size w1 w' from awake_true)
  have HM : Hid (∀ w1, Below w.heap.size w w1 → Calls Try.prog 17 #[.agg (x.cells ao lo co ap lp cp)] w1 fun e w' =>
      ∃ a cap, e = .returned (x.rc.v a (4 * x.n) cap) ∧ x.rc.ok (4 * x.n) cap ∧ Byt w' a (4 * x.n) x.rc.zs ∧ (∀ ad, a = some ad → w1.heap.size ≤ ad.block ∧ ad.block < w'.heap.size) ∧ OwnU w' w1.heap.size (.slice a (4 * x.n) cap) x.rc.zs ∧ Below w1.heap.size w1 w') :=
    fun w1 hb => law_made x ao lo co ap lp cp w1 (ho.below (Nat.le_refl _) hb) (hp.below (Nat.le_refl _) hb) hsz htr hde
  go_enter Try.func10, Try.ntmps10
  go_wp2_with fail
  have hB0 := (Below.refl w.heap.size w).alloc (Nat.le_refl _) (.cells (x.cells ao lo co ap lp cp) 36)
  have hX := Row.new w 36 (x.cells ao lo co ap lp cp)
  refine (HA.out _).mono ?_
  rintro e w1 ⟨rfl, hb1⟩
  have hB1 := hB0.trans (hb1.mono hB0.size)
  have hX1 := hX.below hX.lt hb1
  clear hX hB0 hb1
  have x0 := hX1.cell 0
  have x1 := hX1.cell 1
  have x2 := hX1.cell 2
  have x3 := hX1.cell 3
  have x4 := hX1.cell 4
  have x5 := hX1.cell 5
  simp only [List.getElem?_toArray, List.getElem?_cons_zero, List.getElem?_cons_succ] at x0 x1 x2 x3 x4 x5
  go_wp2_with fail
  refine (HM.out w1 hB1).mono ?_
  rintro e w2 ⟨a, cap, rfl, hok, hz, hab, how, hb2⟩
  have hB2 := hB1.trans (hb2.mono hB1.size)
  have hR := Row.new w2 27 (x.rc.cells a (4 * x.n) cap)
  have hBr : Below w2.heap.size w2 (w2.alloc (.cells (x.rc.cells a (4 * x.n) cap) 27)) := (Below.refl _ _).alloc (Nat.le_refl _) _
  have hzB : ∀ w3, Below w2.heap.size w2 w3 → Byt w3 a (4 * x.n) x.rc.zs ∧ ∀ ad, a = some ad → ad.block < w3.heap.size := fun w3 h => ⟨hz.below (Nat.le_refl _) h, fun ad he => Nat.lt_of_lt_of_le (hab ad he).2 h.size⟩
  clear x0 x1 x2 x3 x4 x5 hX1 HA HM
  obtain ⟨L, hL⟩ : ∃ L, L = 4 * x.n := ⟨_, rfl⟩
  have hL24 : L ≤ 24 := by omega
  have hL0 : 0 < L := by omega
  obtain ⟨k, hk⟩ : ∃ k : Nat, (k : Int) = IntKind.u64.wrap n % (L : Int) := ⟨(IntKind.u64.wrap n % (L : Int)).toNat, by rw [Int.toNat_of_nonneg (Int.emod_nonneg _ (by omega))]⟩
  have hkL : k < L := by have := Int.emod_lt_of_pos (IntKind.u64.wrap n) (show (0 : Int) < (L : Int) by omega); omega
  have hkE : (IntKind.u64.wrap n).tmod (L : Int) = (k : Int) := by rw [Int.tmod_eq_emod_of_nonneg (by rw [IntKind.wrap_u64]; omega)]; exact hk.symm
  have hw8 : (way : Int) % 8 = 5 := by omega
  have hln := made_len x
  have HLT := Lib.hid (made_lt x)
  have hrd3 : x.rc.d ≤ 3 := dealt_d (made_dealt x)
  have hrt4 := (made_td x).1
  have hh64 := Lib.hid (made_w64 x)
  obtain ⟨q, hq⟩ : ∃ q : Nat, (q : Int) = n % 128 := ⟨(n % 128).toNat, by omega⟩
  have hq128 : q < 128 := by omega
  have hqI : n % 128 = (q : Int) := hq.symm
  have HN64 := Lib.hid hn64
  have hno := how.len
  obtain ⟨ad, hadE⟩ : ∃ ad, a = some ad := by
    cases a with
    | none => rcases hz.cells with h | ⟨_, _, h, _⟩; exact absurd h (by omega); cases h
    | some ad => exact ⟨ad, rfl⟩
  subst hadE
  rw [← hL] at hln hok hz how hR hBr hzB ⊢
  have HL := Lib.hid hL
  have HLN := Lib.hid hln
  have hbad := (hab ad rfl).2
  clear hL hk hq hn64 hn hwc hno hok hab hzB hln
  have hRe := hR.alloc (.cells #[] 5)
  have hzE := hz.below (Nat.le_refl _) (hBr.alloc (by simp) (.cells #[] 5))
  have hown0 := ownU_made0 (w2.alloc (.cells (x.rc.cells (some ad) L cap) 27)) (w2.heap.size + 1) (by rw [World.size_alloc]; exact Nat.le_refl _)
  rw [World.size_alloc] at hown0
  have hbs0 : w2.heap.size + 1 ≤ ((w2.alloc (.cells (x.rc.cells (some ad) L cap) 27)).alloc (.cells #[] 5)).heap.size := by rw [World.size_alloc, World.size_alloc]; omega
  have hby0 : ([] : List Nat).length + L ≤ 140737488355328 := by show 0 + L ≤ _; omega
  go_upto_region 5 with (at_builtin; go_loud (refine appU rfl (.tmp 29) (.tmp 31) rfl (w2.heap.size + 1) _ [] x.rc.zs rfl hown0 ad L cap rfl hzE hby0 hbs0 ?_); go_loud (intro v' w3 hoA hB3 hx1 hx2; clear hx1 hx2; rw [List.nil_append] at hoA); go_loud (obtain ⟨al, cl, hv, hne⟩ := hoA.slice; obtain ⟨g, hg⟩ := hne (by intro e; have := HLN.out; rw [e] at this; simp at this; omega); subst hv; subst hg); go_loud (have hR3 := hRe.below (by omega) hB3; have c6 := hR3.cell 6; have f6 := hR3.frozen 6); (try simp only [List.getElem?_toArray, List.getElem?_cons_zero, List.getElem?_cons_succ] at c6); go_loud ( have hgl := (hoA.row (g := g) rfl)); go_loud (have hs3 := hB3.size; try simp only [World.size_alloc] at hs3))
  have hlc : L ≤ cl ∧ cl ≤ maxLen := by
    rcases hoA.form with ⟨h1, _⟩ | ⟨g', c', h1, _, _, h2, h3⟩
    · cases h1
    · simp only [Value.slice.injEq] at h1
      rw [HLN.out] at h2
      exact ⟨by omega, by omega⟩
  unfold maxLen at hlc
  rw [HLN.out]
  rw [HLN.out] at hoA
  have hR4 := hR3.set 6 (.slice (some ⟨g, 0, none⟩) L cl)
  have hO4 := hoA.keptS (S := fun b => b ≠ w2.heap.size) (W' := w3.setCell ⟨w2.heap.size, 6, none⟩ (.slice (some ⟨g, 0, none⟩) L cl)) (by intro b hb; simp [Value.ownBlock] at hb; omega) ((Kept.refl _ _).setCell (by simp) _)
  have hB4 := ((hB2.trans ((hBr.alloc (by simp) (.cells #[] 5)).mono hB2.size)).trans (hB3.mono (by have := hB2.size; omega))).setCell (p := ⟨w2.heap.size, 6, none⟩) hB2.size (.slice (some ⟨g, 0, none⟩) L cl)
  have hgw : g < (w3.setCell ⟨w2.heap.size, 6, none⟩ (.slice (some ⟨g, 0, none⟩) L cl)).heap.size := by simp; exact hgl.2.1
  have hg2 : w2.heap.size + 1 ≤ g := hgl.1
  have hs4 : w.heap.size ≤ w2.heap.size := hB2.size
  clear hgl hs3 c6 f6 hR3 hB3 hRe hzE hR hBr hoA how hz hbad
  generalize w3.setCell ⟨w2.heap.size, 6, none⟩ (.slice (some ⟨g, 0, none⟩) L cl) = w4 at *
  have hR4' : Row w4 w2.heap.size 27 (x.rc.cells (some ⟨g, 0, none⟩) L cl) := hR4
  clear hR4
  have r0 := hR4'.cell 0
  have r1 := hR4'.cell 1
  have r2 := hR4'.cell 2
  have r3 := hR4'.cell 3
  have r4 := hR4'.cell 4
  have r5 := hR4'.cell 5
  have r6 := hR4'.cell 6
  simp only [List.getElem?_toArray, List.getElem?_cons_zero, List.getElem?_cons_succ] at r0 r1 r2 r3 r4 r5 r6
  have hand := and127 n
  rw [hqI] at hand
  have hkz : k < x.rc.zs.length := by rw [HLN.out]; exact hkL
  obtain ⟨ck, fk⟩ := own_at hO4 hkz
  have hOT0 := own_put hO4 hkz (52 + q)
  have hne : w2.heap.size ≠ g := by omega
  go_upto_region 30 with fail
  have hRT0 := hR4'.other (B' := g) (i := k) (v := .int .u8 (52 + (q : Int))) hne
  have hBT := hB4.setCell (p := ⟨g, k, none⟩) (by simp; omega) (.int .u8 (52 + (q : Int)))
  have hOT : OwnU (w4.setCell ⟨g, k, none⟩ (.int .u8 (52 + (q : Int)))) (w2.heap.size + 1) (.slice (some ⟨g, 0, none⟩) L cl) (x.rc.zs.set k (52 + q)) := hOT0
  have hgT : g < (w4.setCell ⟨g, k, none⟩ (.int .u8 (52 + (q : Int)))).heap.size := by simp; exact hgw
  clear ck fk hOT0 r0 r1 r2 r3 r4 r5 r6 hO4 hB4 hgw
  generalize w4.setCell ⟨g, k, none⟩ (.int .u8 (52 + (q : Int))) = wT at *
  have hRT : Row wT w2.heap.size 27 #[.int .u64 (x.rc.h 0 : Int), .int .u64 (x.rc.h 1 : Int), .int .u64 (x.rc.h 2 : Int), .int .u64 (x.rc.h 3 : Int), .int .u8 (x.rc.t : Int), .int .u8 (x.rc.d : Int), .slice (some ⟨g, 0, none⟩) L cl] := hRT0
  clear hRT0 hR4'
  have HRV := Lib.hid (wrong5 x (k := k) (c := 52 + q) (by have := HL.out; omega) (by omega))
  have hokT : ((⟨x.rc.h, x.rc.t, x.rc.d, x.rc.zs.set k (52 + q)⟩ : Rc)).ok L cl := ⟨fun j => hh64.out j, by show x.rc.t < 256; omega, by show x.rc.d < 256; omega, hlc.1, by have := hlc.2; omega⟩
  have HV : Hid (((⟨x.rc.h, x.rc.t, x.rc.d, x.rc.zs.set k (52 + q)⟩ : Rc)).v (some ⟨g, 0, none⟩) L cl = .agg #[.int .u64 (x.rc.h 0 : Int), .int .u64 (x.rc.h 1 : Int), .int .u64 (x.rc.h 2 : Int), .int .u64 (x.rc.h 3 : Int), .int .u8 (x.rc.t : Int), .int .u8 (x.rc.d : Int), .slice (some ⟨g, 0, none⟩) L cl]) := Lib.hid rfl
  obtain ⟨aT, cT, heT, -, -, -, -, hzT⟩ := OwnU.byt hOT (by rw [List.length_set, HLN.out]; omega) (fun i => getD_lt (n := 256) (by omega) (fun c hc => by rcases List.mem_or_eq_of_mem_set hc with h | h; exact Nat.lt_trans (HLT.out c h) (by omega); omega) i)
  simp only [Value.slice.injEq] at heT
  obtain ⟨rfl, hlT, rfl⟩ := heT
  rw [← hlT] at hzT
  clear hlT
  have hT2 := hBT.size
  have r0 := hRT.cell 0
  have r1 := hRT.cell 1
  have r2 := hRT.cell 2
  have r3 := hRT.cell 3
  have r4 := hRT.cell 4
  have r5 := hRT.cell 5
  have r6 := hRT.cell 6
  simp only [List.getElem?_toArray, List.getElem?_cons_zero, List.getElem?_cons_succ] at r0 r1 r2 r3 r4 r5 r6
  have hc5 := bad_right (some ⟨g, 0, none⟩) L cl wT hokT hzT (fun ad h => by injection h with h; subst h; exact hgT) HRV.out
  try rw [HV.out] at hc5
  have HC5 := Lib.hid hc5
  clear hc5
  go_wp2_with fail
  refine HC5.out.mono ?_
  rintro e w5 ⟨rfl, hb5⟩
  have hR5x := hRT.below hRT.lt hb5
  have hB5x := hBT.trans (hb5.mono hBT.size)
  have hz5x := hzT.below (Nat.le_refl _) hb5
  have hg5x := Nat.lt_of_lt_of_le hgT hb5.size
  clear r0 r1 r2 r3 r4 r5 r6 hRT hBT hzT hgT hb5 HC5
  have r0 := hR5x.cell 0
  have r1 := hR5x.cell 1
  have r2 := hR5x.cell 2
  have r3 := hR5x.cell 3
  have r4 := hR5x.cell 4
  have r5 := hR5x.cell 5
  have r6 := hR5x.cell 6
  simp only [List.getElem?_toArray, List.getElem?_cons_zero, List.getElem?_cons_succ] at r0 r1 r2 r3 r4 r5 r6
  have hc6 := bad_wins (by omega) (some ⟨g, 0, none⟩) L cl w5 hokT hz5x (fun ad h => by injection h with h; subst h; exact hg5x) HRV.out
  try rw [HV.out] at hc6
  have HC6 := Lib.hid hc6
  clear hc6
  go_wp2_with fail
  refine HC6.out.mono ?_
  rintro e w6 ⟨rfl, hb6⟩
  have hR6x := hR5x.below hR5x.lt hb6
  have hB6x := hB5x.trans (hb6.mono hB5x.size)
  have hz6x := hz5x.below (Nat.le_refl _) hb6
  have hg6x := Nat.lt_of_lt_of_le hg5x hb6.size
  clear r0 r1 r2 r3 r4 r5 r6 hR5x hB5x hz5x hg5x hb6 HC6
  have r0 := hR6x.cell 0
  have r1 := hR6x.cell 1
  have r2 := hR6x.cell 2
  have r3 := hR6x.cell 3
  have r4 := hR6x.cell 4
  have r5 := hR6x.cell 5
  have r6 := hR6x.cell 6
  simp only [List.getElem?_toArray, List.getElem?_cons_zero, List.getElem?_cons_succ] at r0 r1 r2 r3 r4 r5 r6
  have hc7 := bad_find (by omega) (some ⟨g, 0, none⟩) L cl w6 hokT hz6x (fun ad h => by injection h with h; subst h; exact hg6x) HRV.out
  try rw [HV.out] at hc7
  have HC7 := Lib.hid hc7
  clear hc7
  go_wp2_with fail
  refine HC7.out.mono ?_
  rintro e w7 ⟨rfl, hb7⟩
  have hR7x := hR6x.below hR6x.lt hb7
  have hB7x := hB6x.trans (hb7.mono hB6x.size)
  have hz7x := hz6x.below (Nat.le_refl _) hb7
  have hg7x := Nat.lt_of_lt_of_le hg6x hb7.size
  clear r0 r1 r2 r3 r4 r5 r6 hR6x hB6x hz6x hg6x hb7 HC7
  have r0 := hR7x.cell 0
  have r1 := hR7x.cell 1
  have r2 := hR7x.cell 2
  have r3 := hR7x.cell 3
  have r4 := hR7x.cell 4
  have r5 := hR7x.cell 5
  have r6 := hR7x.cell 6
  simp only [List.getElem?_toArray, List.getElem?_cons_zero, List.getElem?_cons_succ] at r0 r1 r2 r3 r4 r5 r6
  have hc8 := bad_moved (by omega) (some ⟨g, 0, none⟩) L cl w7 hokT hz7x (fun ad h => by injection h with h; subst h; exact hg7x) (by omega) HRV.out
  try rw [HV.out] at hc8
  have HC8 := Lib.hid hc8
  clear hc8
  go_wp2_with fail
  refine HC8.out.mono ?_
  rintro e w8 ⟨rfl, hb8⟩
  have hR8x := hR7x.below hR7x.lt hb8
  have hB8x := hB7x.trans (hb8.mono hB7x.size)
  have hz8x := hz7x.below (Nat.le_refl _) hb8
  have hg8x := Nat.lt_of_lt_of_le hg7x hb8.size
  clear r0 r1 r2 r3 r4 r5 r6 hR7x hB7x hz7x hg7x hb8 HC8
  have r0 := hR8x.cell 0
  have r1 := hR8x.cell 1
  have r2 := hR8x.cell 2
  have r3 := hR8x.cell 3
  have r4 := hR8x.cell 4
  have r5 := hR8x.cell 5
  have r6 := hR8x.cell 6
  simp only [List.getElem?_toArray, List.getElem?_cons_zero, List.getElem?_cons_succ] at r0 r1 r2 r3 r4 r5 r6
  have hc9 := bad_tricks (by omega) (some ⟨g, 0, none⟩) L cl w8 hokT hz8x (fun ad h => by injection h with h; subst h; exact hg8x) (by omega) HRV.out
  try rw [HV.out] at hc9
  have HC9 := Lib.hid hc9
  clear hc9
  go_wp2_with fail
  refine HC9.out.mono ?_
  rintro e w9 ⟨rfl, hb9⟩
  have hR9x := hR8x.below hR8x.lt hb9
  have hB9x := hB8x.trans (hb9.mono hB8x.size)
  have hz9x := hz8x.below (Nat.le_refl _) hb9
  have hg9x := Nat.lt_of_lt_of_le hg8x hb9.size
  clear r0 r1 r2 r3 r4 r5 r6 hR8x hB8x hz8x hg8x hb9 HC9
  have HB9 := Lib.hid hB9x
  clear hR9x hB9x hz9x hg9x
  go_wp2
  go_ret
  exact ⟨rfl, HB9.out⟩
end Go.Proofs.Ytdlnilebnobllaa

/- The body of finesselaw13.RevokeWrong over this seat's program: way 6. -/
namespace Go.Proofs.Ytdlnilebnobllaa
open Go.RowKit Go.Shelf Go.Sort

set_option maxHeartbeats 2000000 in
set_option maxRecDepth 100000 in
theorem law_RevokeWrong6 (x : Sk) (ao : Option Addr) (lo co : Nat) (ap : Option Addr) (lp cp : Nat) (n : Int) (way : Nat) (w : World) (ho : Byt w ao lo x.order) (hp : Byt w ap lp x.play)
    (hsz : x.size < 256) (htr : x.trumps < 256) (hde : x.decl < 256) (hn64 : -9223372036854775808 ≤ n ∧ n ≤ 9223372036854775807) (hway : way < 256) (hwc : way % 8 = 6) :
    Calls Try.prog 10 #[.agg (x.cells ao lo co ap lp cp), .int .i64 n, .int .u8 (way : Int)] w fun e w' => e = .returned (.bool true) ∧ Below w.heap.size w w' := by
  have hn := x.n_le
  have HA := Lib.hid (show ∀ w1, Calls Try.prog 12 #[] w1 fun e w' => e = .returned (.bool true) ∧ Below w1.heap.size w1 w' from awake_true)
  have HM : Hid (∀ w1, Below w.heap.size w w1 → Calls Try.prog 17 #[.agg (x.cells ao lo co ap lp cp)] w1 fun e w' =>
      ∃ a cap, e = .returned (x.rc.v a (4 * x.n) cap) ∧ x.rc.ok (4 * x.n) cap ∧ Byt w' a (4 * x.n) x.rc.zs ∧ (∀ ad, a = some ad → w1.heap.size ≤ ad.block ∧ ad.block < w'.heap.size) ∧ OwnU w' w1.heap.size (.slice a (4 * x.n) cap) x.rc.zs ∧ Below w1.heap.size w1 w') :=
    fun w1 hb => law_made x ao lo co ap lp cp w1 (ho.below (Nat.le_refl _) hb) (hp.below (Nat.le_refl _) hb) hsz htr hde
  go_enter Try.func10, Try.ntmps10
  go_wp2_with fail
  have hB0 := (Below.refl w.heap.size w).alloc (Nat.le_refl _) (.cells (x.cells ao lo co ap lp cp) 36)
  have hX := Row.new w 36 (x.cells ao lo co ap lp cp)
  refine (HA.out _).mono ?_
  rintro e w1 ⟨rfl, hb1⟩
  have hB1 := hB0.trans (hb1.mono hB0.size)
  have hX1 := hX.below hX.lt hb1
  clear hX hB0 hb1
  have x0 := hX1.cell 0
  have x1 := hX1.cell 1
  have x2 := hX1.cell 2
  have x3 := hX1.cell 3
  have x4 := hX1.cell 4
  have x5 := hX1.cell 5
  simp only [List.getElem?_toArray, List.getElem?_cons_zero, List.getElem?_cons_succ] at x0 x1 x2 x3 x4 x5
  go_wp2_with fail
  refine (HM.out w1 hB1).mono ?_
  rintro e w2 ⟨a, cap, rfl, hok, hz, hab, how, hb2⟩
  have hB2 := hB1.trans (hb2.mono hB1.size)
  have hR := Row.new w2 27 (x.rc.cells a (4 * x.n) cap)
  have hBr : Below w2.heap.size w2 (w2.alloc (.cells (x.rc.cells a (4 * x.n) cap) 27)) := (Below.refl _ _).alloc (Nat.le_refl _) _
  have hzB : ∀ w3, Below w2.heap.size w2 w3 → Byt w3 a (4 * x.n) x.rc.zs ∧ ∀ ad, a = some ad → ad.block < w3.heap.size := fun w3 h => ⟨hz.below (Nat.le_refl _) h, fun ad he => Nat.lt_of_lt_of_le (hab ad he).2 h.size⟩
  clear x0 x1 x2 x3 x4 x5 hX1 HA HM
  obtain ⟨L, hL⟩ : ∃ L, L = 4 * x.n := ⟨_, rfl⟩
  have hL24 : L ≤ 24 := by omega
  have hL0 : 0 < L := by omega
  obtain ⟨k, hk⟩ : ∃ k : Nat, (k : Int) = IntKind.u64.wrap n % (L : Int) := ⟨(IntKind.u64.wrap n % (L : Int)).toNat, by rw [Int.toNat_of_nonneg (Int.emod_nonneg _ (by omega))]⟩
  have hkL : k < L := by have := Int.emod_lt_of_pos (IntKind.u64.wrap n) (show (0 : Int) < (L : Int) by omega); omega
  have hkE : (IntKind.u64.wrap n).tmod (L : Int) = (k : Int) := by rw [Int.tmod_eq_emod_of_nonneg (by rw [IntKind.wrap_u64]; omega)]; exact hk.symm
  have hw8 : (way : Int) % 8 = 6 := by omega
  have hln := made_len x
  have HLT := Lib.hid (made_lt x)
  have hrd3 : x.rc.d ≤ 3 := dealt_d (made_dealt x)
  have hrt4 := (made_td x).1
  have hh64 := Lib.hid (made_w64 x)
  obtain ⟨q, hq⟩ : ∃ q : Nat, (q : Int) = n % 128 := ⟨(n % 128).toNat, by omega⟩
  have hq128 : q < 128 := by omega
  have hqI : n % 128 = (q : Int) := hq.symm
  have HN64 := Lib.hid hn64
  have hno := how.len
  obtain ⟨ad, hadE⟩ : ∃ ad, a = some ad := by
    cases a with
    | none => rcases hz.cells with h | ⟨_, _, h, _⟩; exact absurd h (by omega); cases h
    | some ad => exact ⟨ad, rfl⟩
  subst hadE
  rw [← hL] at hln hok hz how hR hBr hzB ⊢
  have HL := Lib.hid hL
  have HLN := Lib.hid hln
  have hbad := (hab ad rfl).2
  clear hL hk hq hn64 hn hwc hno hok hab hzB hln
  have hRe := hR.alloc (.cells #[] 5)
  have hzE := hz.below (Nat.le_refl _) (hBr.alloc (by simp) (.cells #[] 5))
  have hown0 := ownU_made0 (w2.alloc (.cells (x.rc.cells (some ad) L cap) 27)) (w2.heap.size + 1) (by rw [World.size_alloc]; exact Nat.le_refl _)
  rw [World.size_alloc] at hown0
  have hbs0 : w2.heap.size + 1 ≤ ((w2.alloc (.cells (x.rc.cells (some ad) L cap) 27)).alloc (.cells #[] 5)).heap.size := by rw [World.size_alloc, World.size_alloc]; omega
  have hby0 : ([] : List Nat).length + L ≤ 140737488355328 := by show 0 + L ≤ _; omega
  go_upto_region 5 with (at_builtin; go_loud (refine appU rfl (.tmp 29) (.tmp 31) rfl (w2.heap.size + 1) _ [] x.rc.zs rfl hown0 ad L cap rfl hzE hby0 hbs0 ?_); go_loud (intro v' w3 hoA hB3 hx1 hx2; clear hx1 hx2; rw [List.nil_append] at hoA); go_loud (obtain ⟨al, cl, hv, hne⟩ := hoA.slice; obtain ⟨g, hg⟩ := hne (by intro e; have := HLN.out; rw [e] at this; simp at this; omega); subst hv; subst hg); go_loud (have hR3 := hRe.below (by omega) hB3; have c6 := hR3.cell 6; have f6 := hR3.frozen 6); (try simp only [List.getElem?_toArray, List.getElem?_cons_zero, List.getElem?_cons_succ] at c6); go_loud ( have hgl := (hoA.row (g := g) rfl)); go_loud (have hs3 := hB3.size; try simp only [World.size_alloc] at hs3))
  have hlc : L ≤ cl ∧ cl ≤ maxLen := by
    rcases hoA.form with ⟨h1, _⟩ | ⟨g', c', h1, _, _, h2, h3⟩
    · cases h1
    · simp only [Value.slice.injEq] at h1
      rw [HLN.out] at h2
      exact ⟨by omega, by omega⟩
  unfold maxLen at hlc
  rw [HLN.out]
  rw [HLN.out] at hoA
  have hR4 := hR3.set 6 (.slice (some ⟨g, 0, none⟩) L cl)
  have hO4 := hoA.keptS (S := fun b => b ≠ w2.heap.size) (W' := w3.setCell ⟨w2.heap.size, 6, none⟩ (.slice (some ⟨g, 0, none⟩) L cl)) (by intro b hb; simp [Value.ownBlock] at hb; omega) ((Kept.refl _ _).setCell (by simp) _)
  have hB4 := ((hB2.trans ((hBr.alloc (by simp) (.cells #[] 5)).mono hB2.size)).trans (hB3.mono (by have := hB2.size; omega))).setCell (p := ⟨w2.heap.size, 6, none⟩) hB2.size (.slice (some ⟨g, 0, none⟩) L cl)
  have hgw : g < (w3.setCell ⟨w2.heap.size, 6, none⟩ (.slice (some ⟨g, 0, none⟩) L cl)).heap.size := by simp; exact hgl.2.1
  have hg2 : w2.heap.size + 1 ≤ g := hgl.1
  have hs4 : w.heap.size ≤ w2.heap.size := hB2.size
  clear hgl hs3 c6 f6 hR3 hB3 hRe hzE hR hBr hoA how hz hbad
  generalize w3.setCell ⟨w2.heap.size, 6, none⟩ (.slice (some ⟨g, 0, none⟩) L cl) = w4 at *
  have hR4' : Row w4 w2.heap.size 27 (x.rc.cells (some ⟨g, 0, none⟩) L cl) := hR4
  clear hR4
  have r0 := hR4'.cell 0
  have r1 := hR4'.cell 1
  have r2 := hR4'.cell 2
  have r3 := hR4'.cell 3
  have r4 := hR4'.cell 4
  have r5 := hR4'.cell 5
  have r6 := hR4'.cell 6
  simp only [List.getElem?_toArray, List.getElem?_cons_zero, List.getElem?_cons_succ] at r0 r1 r2 r3 r4 r5 r6
  have hkz : k < x.rc.zs.length := by rw [HLN.out]; exact hkL
  obtain ⟨ck, fk⟩ := own_at hO4 hkz
  have hzb := getD_lt (n := 52) (by omega) HLT.out k
  obtain ⟨hd, hdE⟩ : ∃ hd, hd = holdV x.rc.h (x.rc.zs.getD k 0) := ⟨_, rfl⟩
  have hho := law_holder x.rc.h (x.rc.zs.getD k 0)
  rw [← hdE] at hho
  have HHO := Lib.hid hho
  have HHD := Lib.hid hdE
  have hd4 : hd < 4 := by rw [hdE, made_holder x (by have := HL.out; omega)]; exact seatAt_lt _ _ _ _
  have HZE := Lib.hid (show x.rc.zs.getD k 0 = x.rc.zs.getD k 0 from rfl)
  clear hho hdE fk
  generalize hzE : x.rc.zs.getD k 0 = z at *
  have HZE2 := Lib.hid hzE
  clear hzE HZE
  have rr0 := fun dd os => cell_regrown r0 dd os
  have rr1 := fun dd os => cell_regrown r1 dd os
  have rr2 := fun dd os => cell_regrown r2 dd os
  have rr3 := fun dd os => cell_regrown r3 dd os
  have rr4 := fun dd os => cell_regrown r4 dd os
  have rr5 := fun dd os => cell_regrown r5 dd os
  have rr6 := fun dd os => cell_regrown r6 dd os
  have rck := fun dd os => cell_regrown ck dd os
  go_upto_region 22 with fail
  refine wp_region_quiet_below (by kernel_rfl) (by kernel_rfl) ?_
  repeat (quiet_step ((exact Calls.regrown_of (HHO.out _ hh64.out))))
  refine wpQuiet_nil ?_
  rintro _ ⟨p, rfl⟩
  have hb5 := below_regrown w4 p.d p.os
  generalize grow (redrawn w4 p.d) p.os = w5 at *
  clear rr0 rr1 rr2 rr3 rr4 rr5 rr6 rck r0 r1 r2 r3 r4 r5 r6 ck
  have hR5 := hR4'.below hR4'.lt hb5
  have hO5 := Owns.below hO4 hb5
  have hB5 := hB4.trans (hb5.mono hB4.size)
  have hg5 := Nat.lt_of_lt_of_le hgw hb5.size
  clear hR4' hO4 hB4 hgw hb5
  obtain ⟨s1, hs1⟩ : ∃ s1, s1 = (hd + 1) % 4 := ⟨_, rfl⟩
  have hs1I : ((hd : Int) + 1) % 4 = (s1 : Int) := by omega
  have hs14 : s1 < 4 := by omega
  have HS1 := Lib.hid hs1
  clear hs1
  have hm64 := hh64.out s1
  go_wp2_with fail
  go_loopw [115] (fun c wr => ∃ j : Nat, j ≤ 52 ∧ c = .int .u8 (j : Int) ∧ Row wr w2.heap.size 27 #[.int .u64 (x.rc.h 0 : Int), .int .u64 (x.rc.h 1 : Int), .int .u64 (x.rc.h 2 : Int), .int .u64 (x.rc.h 3 : Int), .int .u8 (x.rc.t : Int), .int .u8 (x.rc.d : Int), .slice (some ⟨g, 0, none⟩) L cl] ∧ OwnU wr (w2.heap.size + 1) (.slice (some ⟨g, 0, none⟩) L cl) (x.rc.zs.set k (lastTo (x.rc.h s1) z j)) ∧ Below w.heap.size w wr ∧ g < wr.heap.size) (fun c _ => 52 - (intOf c).toNat)
  case atStart => exact ⟨0, by omega, rfl, hR5, by rw [lastTo, ← HZE2.out, set_same _ _ _ (by rw [List.getD_eq_getElem?_getD, List.getElem?_eq_getElem hkz]; rfl)]; exact hO5, hB5, hg5⟩
  case round =>
    obtain ⟨j, hj, rfl, hRr, hOr, hBr', hgr⟩ := hrel
    by_cases hlt : j < 52
    · have hcs : wr.cell? ⟨w2.heap.size, s1, none⟩ = some (.int .u64 (x.rc.h s1 : Int)) := by
        rw [hRr.cell s1]
        rcases (show s1 = 0 ∨ s1 = 1 ∨ s1 = 2 ∨ s1 = 3 by omega) with h | h | h | h <;> rw [h] <;> rfl
      have r6 := hRr.cell 6
      simp only [List.getElem?_toArray, List.getElem?_cons_zero, List.getElem?_cons_succ] at r6
      have hkz' : k < (x.rc.zs.set k (lastTo (x.rc.h s1) z j)).length := by rw [List.length_set]; exact hkz
      obtain ⟨ck, fk⟩ := own_at hOr hkz'
      have hOn := own_put hOr hkz' j
      rw [List.set_set] at hOn
      have HLS := Lib.hid (show lastTo (x.rc.h s1) z (j + 1) = if (x.rc.h s1).testBit j then j else lastTo (x.rc.h s1) z j from rfl)
      have hne : w2.heap.size ≠ g := by omega
      have hRo := hRr.other (B' := g) (i := k) (v := .int .u8 (j : Int)) hne
      have hBo := hBr'.setCell (p := ⟨g, k, none⟩) (by simp; omega) (.int .u8 (j : Int))
      cases hbit : (x.rc.h s1).testBit j
      · have HB := Lib.hid hbit
        go_wp2
        go_roundw
        case rel => exact ⟨j + 1, by omega, by go_num, hRr, by rw [HLS.out, HB.out]; exact hOr, hBr', hgr⟩
        case measure => simp [intOf]; omega
      · have HB := Lib.hid hbit
        go_wp2
        go_roundw
        case rel => exact ⟨j + 1, by omega, by go_num, hRo, by rw [HLS.out, HB.out]; exact hOn, hBo, by simpa using hgr⟩
        case measure => simp [intOf]; omega
    · have hje : j = 52 := by omega
      subst hje
      obtain ⟨c0, hc0, hc1⟩ := hand_some x (s := s1) hs14
      have HLB := Lib.hid (lastTo_bit (x.rc.h s1) z 52 c0 hc0 hc1)
      clear hc0 hc1 hm64 hs1I
      generalize lastTo (x.rc.h s1) z 52 = cc at *
      have hRT : Row wr w2.heap.size 27 #[.int .u64 (x.rc.h 0 : Int), .int .u64 (x.rc.h 1 : Int), .int .u64 (x.rc.h 2 : Int), .int .u64 (x.rc.h 3 : Int), .int .u8 (x.rc.t : Int), .int .u8 (x.rc.d : Int), .slice (some ⟨g, 0, none⟩) L cl] := hRr
      have hOT := hOr
      have hBT := hBr'
      have hgT := hgr
      clear hRr hOr hBr' hgr
      go_upto_region 30 with fail
      obtain ⟨wT, rfl⟩ : ∃ wT : World, wT = wr := ⟨_, rfl⟩
      have hc52 : cc < 52 := (made_pack x).le _ _ hs14 HLB.out
      have HRV := Lib.hid (wrong6 x (k := k) (c := cc) (by have := HL.out; omega) (by rw [HZE2.out, ← HHD.out, ← HS1.out]; exact HLB.out))
      have hokT : ((⟨x.rc.h, x.rc.t, x.rc.d, x.rc.zs.set k cc⟩ : Rc)).ok L cl := ⟨fun j => hh64.out j, by show x.rc.t < 256; omega, by show x.rc.d < 256; omega, hlc.1, by have := hlc.2; omega⟩
      have HV : Hid (((⟨x.rc.h, x.rc.t, x.rc.d, x.rc.zs.set k cc⟩ : Rc)).v (some ⟨g, 0, none⟩) L cl = .agg #[.int .u64 (x.rc.h 0 : Int), .int .u64 (x.rc.h 1 : Int), .int .u64 (x.rc.h 2 : Int), .int .u64 (x.rc.h 3 : Int), .int .u8 (x.rc.t : Int), .int .u8 (x.rc.d : Int), .slice (some ⟨g, 0, none⟩) L cl]) := Lib.hid rfl
      obtain ⟨aT, cT, heT, -, -, -, -, hzT⟩ := OwnU.byt hOT (by rw [List.length_set, HLN.out]; omega) (fun i => getD_lt (n := 256) (by omega) (fun c hc => by rcases List.mem_or_eq_of_mem_set hc with h | h; exact Nat.lt_trans (HLT.out c h) (by omega); omega) i)
      simp only [Value.slice.injEq] at heT
      obtain ⟨rfl, hlT, rfl⟩ := heT
      rw [← hlT] at hzT
      clear hlT
      have hT2 := hBT.size
      have r0 := hRT.cell 0
      have r1 := hRT.cell 1
      have r2 := hRT.cell 2
      have r3 := hRT.cell 3
      have r4 := hRT.cell 4
      have r5 := hRT.cell 5
      have r6 := hRT.cell 6
      simp only [List.getElem?_toArray, List.getElem?_cons_zero, List.getElem?_cons_succ] at r0 r1 r2 r3 r4 r5 r6
      have hc5 := bad_right (some ⟨g, 0, none⟩) L cl wT hokT hzT (fun ad h => by injection h with h; subst h; exact hgT) HRV.out
      try rw [HV.out] at hc5
      have HC5 := Lib.hid hc5
      clear hc5
      go_wp2_with fail
      refine HC5.out.mono ?_
      rintro e w5 ⟨rfl, hb5⟩
      have hR5x := hRT.below hRT.lt hb5
      have hB5x := hBT.trans (hb5.mono hBT.size)
      have hz5x := hzT.below (Nat.le_refl _) hb5
      have hg5x := Nat.lt_of_lt_of_le hgT hb5.size
      clear r0 r1 r2 r3 r4 r5 r6 hRT hBT hzT hgT hb5 HC5
      have r0 := hR5x.cell 0
      have r1 := hR5x.cell 1
      have r2 := hR5x.cell 2
      have r3 := hR5x.cell 3
      have r4 := hR5x.cell 4
      have r5 := hR5x.cell 5
      have r6 := hR5x.cell 6
      simp only [List.getElem?_toArray, List.getElem?_cons_zero, List.getElem?_cons_succ] at r0 r1 r2 r3 r4 r5 r6
      have hc6 := bad_wins (by omega) (some ⟨g, 0, none⟩) L cl w5 hokT hz5x (fun ad h => by injection h with h; subst h; exact hg5x) HRV.out
      try rw [HV.out] at hc6
      have HC6 := Lib.hid hc6
      clear hc6
      go_wp2_with fail
      refine HC6.out.mono ?_
      rintro e w6 ⟨rfl, hb6⟩
      have hR6x := hR5x.below hR5x.lt hb6
      have hB6x := hB5x.trans (hb6.mono hB5x.size)
      have hz6x := hz5x.below (Nat.le_refl _) hb6
      have hg6x := Nat.lt_of_lt_of_le hg5x hb6.size
      clear r0 r1 r2 r3 r4 r5 r6 hR5x hB5x hz5x hg5x hb6 HC6
      have r0 := hR6x.cell 0
      have r1 := hR6x.cell 1
      have r2 := hR6x.cell 2
      have r3 := hR6x.cell 3
      have r4 := hR6x.cell 4
      have r5 := hR6x.cell 5
      have r6 := hR6x.cell 6
      simp only [List.getElem?_toArray, List.getElem?_cons_zero, List.getElem?_cons_succ] at r0 r1 r2 r3 r4 r5 r6
      have hc7 := bad_find (by omega) (some ⟨g, 0, none⟩) L cl w6 hokT hz6x (fun ad h => by injection h with h; subst h; exact hg6x) HRV.out
      try rw [HV.out] at hc7
      have HC7 := Lib.hid hc7
      clear hc7
      go_wp2_with fail
      refine HC7.out.mono ?_
      rintro e w7 ⟨rfl, hb7⟩
      have hR7x := hR6x.below hR6x.lt hb7
      have hB7x := hB6x.trans (hb7.mono hB6x.size)
      have hz7x := hz6x.below (Nat.le_refl _) hb7
      have hg7x := Nat.lt_of_lt_of_le hg6x hb7.size
      clear r0 r1 r2 r3 r4 r5 r6 hR6x hB6x hz6x hg6x hb7 HC7
      have r0 := hR7x.cell 0
      have r1 := hR7x.cell 1
      have r2 := hR7x.cell 2
      have r3 := hR7x.cell 3
      have r4 := hR7x.cell 4
      have r5 := hR7x.cell 5
      have r6 := hR7x.cell 6
      simp only [List.getElem?_toArray, List.getElem?_cons_zero, List.getElem?_cons_succ] at r0 r1 r2 r3 r4 r5 r6
      have hc8 := bad_moved (by omega) (some ⟨g, 0, none⟩) L cl w7 hokT hz7x (fun ad h => by injection h with h; subst h; exact hg7x) (by omega) HRV.out
      try rw [HV.out] at hc8
      have HC8 := Lib.hid hc8
      clear hc8
      go_wp2_with fail
      refine HC8.out.mono ?_
      rintro e w8 ⟨rfl, hb8⟩
      have hR8x := hR7x.below hR7x.lt hb8
      have hB8x := hB7x.trans (hb8.mono hB7x.size)
      have hz8x := hz7x.below (Nat.le_refl _) hb8
      have hg8x := Nat.lt_of_lt_of_le hg7x hb8.size
      clear r0 r1 r2 r3 r4 r5 r6 hR7x hB7x hz7x hg7x hb8 HC8
      have r0 := hR8x.cell 0
      have r1 := hR8x.cell 1
      have r2 := hR8x.cell 2
      have r3 := hR8x.cell 3
      have r4 := hR8x.cell 4
      have r5 := hR8x.cell 5
      have r6 := hR8x.cell 6
      simp only [List.getElem?_toArray, List.getElem?_cons_zero, List.getElem?_cons_succ] at r0 r1 r2 r3 r4 r5 r6
      have hc9 := bad_tricks (by omega) (some ⟨g, 0, none⟩) L cl w8 hokT hz8x (fun ad h => by injection h with h; subst h; exact hg8x) (by omega) HRV.out
      try rw [HV.out] at hc9
      have HC9 := Lib.hid hc9
      clear hc9
      go_wp2_with fail
      refine HC9.out.mono ?_
      rintro e w9 ⟨rfl, hb9⟩
      have hR9x := hR8x.below hR8x.lt hb9
      have hB9x := hB8x.trans (hb9.mono hB8x.size)
      have hz9x := hz8x.below (Nat.le_refl _) hb9
      have hg9x := Nat.lt_of_lt_of_le hg8x hb9.size
      clear r0 r1 r2 r3 r4 r5 r6 hR8x hB8x hz8x hg8x hb9 HC9
      have HB9 := Lib.hid hB9x
      clear hR9x hB9x hz9x hg9x
      go_wp2
      go_ret
      exact ⟨rfl, HB9.out⟩
end Go.Proofs.Ytdlnilebnobllaa

/- The body of finesselaw13.RevokeWrong over this seat's program: way 7. -/
namespace Go.Proofs.Ytdlnilebnobllaa
open Go.RowKit Go.Shelf Go.Sort

set_option maxHeartbeats 2000000 in
set_option maxRecDepth 100000 in
theorem law_RevokeWrong7 (x : Sk) (ao : Option Addr) (lo co : Nat) (ap : Option Addr) (lp cp : Nat) (n : Int) (way : Nat) (w : World) (ho : Byt w ao lo x.order) (hp : Byt w ap lp x.play)
    (hsz : x.size < 256) (htr : x.trumps < 256) (hde : x.decl < 256) (hn64 : -9223372036854775808 ≤ n ∧ n ≤ 9223372036854775807) (hway : way < 256) (hwc : way % 8 = 7) :
    Calls Try.prog 10 #[.agg (x.cells ao lo co ap lp cp), .int .i64 n, .int .u8 (way : Int)] w fun e w' => e = .returned (.bool true) ∧ Below w.heap.size w w' := by
  have hn := x.n_le
  have HA := Lib.hid (show ∀ w1, Calls Try.prog 12 #[] w1 fun e w' => e = .returned (.bool true) ∧ Below w1.heap.size w1 w' from awake_true)
  have HM : Hid (∀ w1, Below w.heap.size w w1 → Calls Try.prog 17 #[.agg (x.cells ao lo co ap lp cp)] w1 fun e w' =>
      ∃ a cap, e = .returned (x.rc.v a (4 * x.n) cap) ∧ x.rc.ok (4 * x.n) cap ∧ Byt w' a (4 * x.n) x.rc.zs ∧ (∀ ad, a = some ad → w1.heap.size ≤ ad.block ∧ ad.block < w'.heap.size) ∧ OwnU w' w1.heap.size (.slice a (4 * x.n) cap) x.rc.zs ∧ Below w1.heap.size w1 w') :=
    fun w1 hb => law_made x ao lo co ap lp cp w1 (ho.below (Nat.le_refl _) hb) (hp.below (Nat.le_refl _) hb) hsz htr hde
  go_enter Try.func10, Try.ntmps10
  go_wp2_with fail
  have hB0 := (Below.refl w.heap.size w).alloc (Nat.le_refl _) (.cells (x.cells ao lo co ap lp cp) 36)
  have hX := Row.new w 36 (x.cells ao lo co ap lp cp)
  refine (HA.out _).mono ?_
  rintro e w1 ⟨rfl, hb1⟩
  have hB1 := hB0.trans (hb1.mono hB0.size)
  have hX1 := hX.below hX.lt hb1
  clear hX hB0 hb1
  have x0 := hX1.cell 0
  have x1 := hX1.cell 1
  have x2 := hX1.cell 2
  have x3 := hX1.cell 3
  have x4 := hX1.cell 4
  have x5 := hX1.cell 5
  simp only [List.getElem?_toArray, List.getElem?_cons_zero, List.getElem?_cons_succ] at x0 x1 x2 x3 x4 x5
  go_wp2_with fail
  refine (HM.out w1 hB1).mono ?_
  rintro e w2 ⟨a, cap, rfl, hok, hz, hab, how, hb2⟩
  have hB2 := hB1.trans (hb2.mono hB1.size)
  have hR := Row.new w2 27 (x.rc.cells a (4 * x.n) cap)
  have hBr : Below w2.heap.size w2 (w2.alloc (.cells (x.rc.cells a (4 * x.n) cap) 27)) := (Below.refl _ _).alloc (Nat.le_refl _) _
  have hzB : ∀ w3, Below w2.heap.size w2 w3 → Byt w3 a (4 * x.n) x.rc.zs ∧ ∀ ad, a = some ad → ad.block < w3.heap.size := fun w3 h => ⟨hz.below (Nat.le_refl _) h, fun ad he => Nat.lt_of_lt_of_le (hab ad he).2 h.size⟩
  clear x0 x1 x2 x3 x4 x5 hX1 HA HM
  obtain ⟨L, hL⟩ : ∃ L, L = 4 * x.n := ⟨_, rfl⟩
  have hL24 : L ≤ 24 := by omega
  have hL0 : 0 < L := by omega
  obtain ⟨k, hk⟩ : ∃ k : Nat, (k : Int) = IntKind.u64.wrap n % (L : Int) := ⟨(IntKind.u64.wrap n % (L : Int)).toNat, by rw [Int.toNat_of_nonneg (Int.emod_nonneg _ (by omega))]⟩
  have hkL : k < L := by have := Int.emod_lt_of_pos (IntKind.u64.wrap n) (show (0 : Int) < (L : Int) by omega); omega
  have hkE : (IntKind.u64.wrap n).tmod (L : Int) = (k : Int) := by rw [Int.tmod_eq_emod_of_nonneg (by rw [IntKind.wrap_u64]; omega)]; exact hk.symm
  have hw8 : (way : Int) % 8 = 7 := by omega
  have hln := made_len x
  have HLT := Lib.hid (made_lt x)
  have hrd3 : x.rc.d ≤ 3 := dealt_d (made_dealt x)
  have hrt4 := (made_td x).1
  have hh64 := Lib.hid (made_w64 x)
  obtain ⟨q, hq⟩ : ∃ q : Nat, (q : Int) = n % 128 := ⟨(n % 128).toNat, by omega⟩
  have hq128 : q < 128 := by omega
  have hqI : n % 128 = (q : Int) := hq.symm
  have HN64 := Lib.hid hn64
  have hno := how.len
  obtain ⟨ad, hadE⟩ : ∃ ad, a = some ad := by
    cases a with
    | none => rcases hz.cells with h | ⟨_, _, h, _⟩; exact absurd h (by omega); cases h
    | some ad => exact ⟨ad, rfl⟩
  subst hadE
  rw [← hL] at hln hok hz how hR hBr hzB ⊢
  have HL := Lib.hid hL
  have HLN := Lib.hid hln
  have hbad := (hab ad rfl).2
  clear hL hk hq hn64 hn hwc hno hok hab hzB hln
  have hRe := hR.alloc (.cells #[] 5)
  have hzE := hz.below (Nat.le_refl _) (hBr.alloc (by simp) (.cells #[] 5))
  have hown0 := ownU_made0 (w2.alloc (.cells (x.rc.cells (some ad) L cap) 27)) (w2.heap.size + 1) (by rw [World.size_alloc]; exact Nat.le_refl _)
  rw [World.size_alloc] at hown0
  have hbs0 : w2.heap.size + 1 ≤ ((w2.alloc (.cells (x.rc.cells (some ad) L cap) 27)).alloc (.cells #[] 5)).heap.size := by rw [World.size_alloc, World.size_alloc]; omega
  have hby0 : ([] : List Nat).length + L ≤ 140737488355328 := by show 0 + L ≤ _; omega
  go_upto_region 5 with (at_builtin; go_loud (refine appU rfl (.tmp 29) (.tmp 31) rfl (w2.heap.size + 1) _ [] x.rc.zs rfl hown0 ad L cap rfl hzE hby0 hbs0 ?_); go_loud (intro v' w3 hoA hB3 hx1 hx2; clear hx1 hx2; rw [List.nil_append] at hoA); go_loud (obtain ⟨al, cl, hv, hne⟩ := hoA.slice; obtain ⟨g, hg⟩ := hne (by intro e; have := HLN.out; rw [e] at this; simp at this; omega); subst hv; subst hg); go_loud (have hR3 := hRe.below (by omega) hB3; have c6 := hR3.cell 6; have f6 := hR3.frozen 6); (try simp only [List.getElem?_toArray, List.getElem?_cons_zero, List.getElem?_cons_succ] at c6); go_loud ( have hgl := (hoA.row (g := g) rfl)); go_loud (have hs3 := hB3.size; try simp only [World.size_alloc] at hs3))
  have hlc : L ≤ cl ∧ cl ≤ maxLen := by
    rcases hoA.form with ⟨h1, _⟩ | ⟨g', c', h1, _, _, h2, h3⟩
    · cases h1
    · simp only [Value.slice.injEq] at h1
      rw [HLN.out] at h2
      exact ⟨by omega, by omega⟩
  unfold maxLen at hlc
  rw [HLN.out]
  rw [HLN.out] at hoA
  have hR4 := hR3.set 6 (.slice (some ⟨g, 0, none⟩) L cl)
  have hO4 := hoA.keptS (S := fun b => b ≠ w2.heap.size) (W' := w3.setCell ⟨w2.heap.size, 6, none⟩ (.slice (some ⟨g, 0, none⟩) L cl)) (by intro b hb; simp [Value.ownBlock] at hb; omega) ((Kept.refl _ _).setCell (by simp) _)
  have hB4 := ((hB2.trans ((hBr.alloc (by simp) (.cells #[] 5)).mono hB2.size)).trans (hB3.mono (by have := hB2.size; omega))).setCell (p := ⟨w2.heap.size, 6, none⟩) hB2.size (.slice (some ⟨g, 0, none⟩) L cl)
  have hgw : g < (w3.setCell ⟨w2.heap.size, 6, none⟩ (.slice (some ⟨g, 0, none⟩) L cl)).heap.size := by simp; exact hgl.2.1
  have hg2 : w2.heap.size + 1 ≤ g := hgl.1
  have hs4 : w.heap.size ≤ w2.heap.size := hB2.size
  clear hgl hs3 c6 f6 hR3 hB3 hRe hzE hR hBr hoA how hz hbad
  generalize w3.setCell ⟨w2.heap.size, 6, none⟩ (.slice (some ⟨g, 0, none⟩) L cl) = w4 at *
  have hR4' : Row w4 w2.heap.size 27 (x.rc.cells (some ⟨g, 0, none⟩) L cl) := hR4
  clear hR4
  have r0 := hR4'.cell 0
  have r1 := hR4'.cell 1
  have r2 := hR4'.cell 2
  have r3 := hR4'.cell 3
  have r4 := hR4'.cell 4
  have r5 := hR4'.cell 5
  have r6 := hR4'.cell 6
  simp only [List.getElem?_toArray, List.getElem?_cons_zero, List.getElem?_cons_succ] at r0 r1 r2 r3 r4 r5 r6
  have hkz : k < x.rc.zs.length := by rw [HLN.out]; exact hkL
  obtain ⟨ck, fk⟩ := own_at hO4 hkz
  have hzb := getD_lt (n := 52) (by omega) HLT.out k
  have hw7 := wrong7 x (k := k) (by have := HL.out; omega)
  generalize hzE : x.rc.zs.getD k 0 = z at *
  rw [← HL.out] at hw7
  have HRV := Lib.hid hw7
  have HZ256 := Lib.hid (show z < 256 by omega)
  have HO := Lib.hid hO4
  have HBS : Hid (w2.heap.size + 1 ≤ w4.heap.size) := Lib.hid (by omega)
  have hRlt := hR4'.lt
  have HCR : Hid (∀ w' : World, Below (w2.heap.size + 1) w4 w' → w'.cell? ⟨w2.heap.size, 6, none⟩ = some (.slice (some ⟨g, 0, none⟩) L cl)) := Lib.hid fun w' hb => (hR4'.below (by omega) hb).cell 6
  have HFZ : Hid (∀ w' : World, Below (w2.heap.size + 1) w4 w' → w'.frozen? ⟨w2.heap.size, 6, none⟩ = false) := Lib.hid fun w' hb => (hR4'.below (by omega) hb).frozen 6
  have HCK : Hid (∀ w' : World, Below w4.heap.size w4 w' → w'.cell? ⟨g, k, none⟩ = some (.int .u8 (z : Int))) := Lib.hid fun w' hb => by
    have := (own_at (Owns.below HO.out hb) hkz).1
    rwa [hzE] at this
  have HRW : Hid (Row w4 w2.heap.size 27 (x.rc.cells (some ⟨g, 0, none⟩) L cl)) := Lib.hid hR4'
  have HB4 := Lib.hid hB4
  clear hzE fk hw7 hR4' hO4 hB4 ck hkz hzb hRlt
  go_upto_region 8 with fail
  clear r0 r1 r2 r3 r4 r5 r6
  refine wp_region_reliesS (FS w4 w2.heap.size (w2.heap.size + 1) [some (.pointer (some ⟨w2.heap.size, 6, none⟩)), some (.slice (some ⟨g, 0, none⟩) L cl), some (.pointer (some ⟨w2.heap.size, 6, none⟩)), some (.slice (some ⟨g, 0, none⟩) L cl), some (.int .i64 (k : Int)), some (.pointer (some ⟨g, k, none⟩)), some (.int .u8 (z : Int)), none, none, some (.pointer (some ⟨w2.heap.size, 6, none⟩)), some (.slice (some ⟨g, 0, none⟩) L cl), some (.int .i64 (L : Int)), some (.pointer (some ⟨w2.heap.size, 6, none⟩)), none, some (.int .i64 131), some (.int .i64 (L : Int))] x.rc.zs z) (by kernel_rfl) (by kernel_rfl) (by kernel_rfl) (by kernel_rfl) ⟨fun _ _ _ _ h => (by cases h), fun _ => ⟨(Below.refl _ _).drew, fun _ h => (by cases h)⟩, fun _ h => (by cases h), fun _ h => (by cases h)⟩ ?obls ?fini
  case obls =>
    refine ⟨?_, ?_, ?_, ?_, ?_, ?_, ?_, ?_, ?_, ?_, ?_, ?_, ?_, ?_, ?_, ?_, trivial⟩
    · -- 0
      intro ρ f w' hF hfi hw hcl hf
      have f7 : ρ (.tmp 7) = .pointer (some ⟨w2.heap.size, 0, none⟩) := hf.1 7 (by simp [Op.operands])
      refine ok_value (v := .pointer (some ⟨w2.heap.size, 6, none⟩)) (w' := w') ?_ (hF.step 0 (.pointer (some ⟨w2.heap.size, 6, none⟩)) rfl (by decide))
      simp [execOp, f7, go_sem]
    · -- 1
      intro ρ f w' hF hfi hw hcl hf
      have n13 := noneS_of hcl hfi (j := 13) (by decide)
      have hc := HCR.out w' (hF.under HBS.out n13)
      have f44 : ρ (.tmp 44) = .pointer (some ⟨w2.heap.size, 6, none⟩) := hF.each 0 (.pointer (some ⟨w2.heap.size, 6, none⟩)) _ rfl (hf.1 44 (by simp [Op.operands]))
      refine ok_value (v := .slice (some ⟨g, 0, none⟩) L cl) (w' := w') ?_ (hF.step 1 (.slice (some ⟨g, 0, none⟩) L cl) rfl (by decide))
      simp [execOp, f44, go_sem, hc]
    · -- 2
      intro ρ f w' hF hfi hw hcl hf
      have f7 : ρ (.tmp 7) = .pointer (some ⟨w2.heap.size, 0, none⟩) := hf.1 7 (by simp [Op.operands])
      refine ok_value (v := .pointer (some ⟨w2.heap.size, 6, none⟩)) (w' := w') ?_ (hF.step 2 (.pointer (some ⟨w2.heap.size, 6, none⟩)) rfl (by decide))
      simp [execOp, f7, go_sem]
    · -- 3
      intro ρ f w' hF hfi hw hcl hf
      have n13 := noneS_of hcl hfi (j := 13) (by decide)
      have hc := HCR.out w' (hF.under HBS.out n13)
      have f46 : ρ (.tmp 46) = .pointer (some ⟨w2.heap.size, 6, none⟩) := hF.each 2 (.pointer (some ⟨w2.heap.size, 6, none⟩)) _ rfl (hf.1 46 (by simp [Op.operands]))
      refine ok_value (v := .slice (some ⟨g, 0, none⟩) L cl) (w' := w') ?_ (hF.step 3 (.slice (some ⟨g, 0, none⟩) L cl) rfl (by decide))
      simp [execOp, f46, go_sem, hc]
    · -- 4
      intro ρ f w' hF hfi hw hcl hf
      have f10 : ρ (.tmp 10) = .int .i64 (k : Int) := hf.1 10 (by simp [Op.operands])
      refine ok_value (v := .int .i64 (k : Int)) (w' := w') ?_ (hF.step 4 (.int .i64 (k : Int)) rfl (by decide))
      simp [execOp, f10, go_sem]
    · -- 5
      intro ρ f w' hF hfi hw hcl hf
      have f47 : ρ (.tmp 47) = .slice (some ⟨g, 0, none⟩) L cl := hF.each 3 (.slice (some ⟨g, 0, none⟩) L cl) _ rfl (hf.1 47 (by simp [Op.operands]))
      have f48 : ρ (.tmp 48) = .int .i64 (k : Int) := hF.each 4 (.int .i64 (k : Int)) _ rfl (hf.1 48 (by simp [Op.operands]))
      refine ok_value (v := .pointer (some ⟨g, k, none⟩)) (w' := w') ?_ (hF.step 5 (.pointer (some ⟨g, k, none⟩)) rfl (by decide))
      simp [execOp, f47, f48, go_sem]
      omega
    · -- 6
      intro ρ f w' hF hfi hw hcl hf
      have n8 := noneS_of hcl (noneS_of hcl hfi (j := 7) (by decide)) (j := 8) (by decide)
      have hc := HCK.out w' (hF.early n8).1
      have f49 : ρ (.tmp 49) = .pointer (some ⟨g, k, none⟩) := hF.each 5 (.pointer (some ⟨g, k, none⟩)) _ rfl (hf.1 49 (by simp [Op.operands]))
      refine ok_value (v := .int .u8 (z : Int)) (w' := w') ?_ (hF.step 6 (.int .u8 (z : Int)) rfl (by decide))
      simp [execOp, f49, go_sem, hc]
    · -- 7
      intro ρ f w' hF hfi hw hcl hf
      have n8 := noneS_of hcl hfi (j := 8) (by decide)
      have f50 : ρ (.tmp 50) = .int .u8 (z : Int) := hF.each 6 (.int .u8 (z : Int)) _ rfl (hf.1 50 (by simp [Op.operands]))
      exact ok_value (v := .slice (some ⟨w'.heap.size, 0, none⟩) 1 1) (w' := w'.alloc (.cells #[.int .u8 (z : Int)] 5)) (by simp [execOp, f50, go_sem]) (hF.one n8 rfl)
    · -- 8
      intro ρ f w' hF hfi hw hcl hf
      have n13 := noneS_of hcl hfi (j := 13) (by decide)
      have f45 : ρ (.tmp 45) = .slice (some ⟨g, 0, none⟩) L cl := hF.each 1 (.slice (some ⟨g, 0, none⟩) L cl) _ rfl (hf.1 45 (by simp [Op.operands, Call.operands]))
      have hE := hF.early hfi
      obtain ⟨g1, fq, hq⟩ := (hE.2 _ (hf.1 51 (by simp [Op.operands, Call.operands]))).byt HZ256.out
      exact okS_append (.tmp 45) (.tmp 51) rfl (w2.heap.size + 1) _ x.rc.zs [z] f45 (Owns.below HO.out hE.1) ⟨g1, 0, none⟩ 1 1 fq hq (by have := HLN.out; omega) (by have := hE.1.size; have := HBS.out; omega) (by decide) fun v w2' h1 h2 h3 => hF.app HBS.out hfi n13 rfl h2 h1 h3
    · -- 9
      intro ρ f w' hF hfi hw hcl hf
      have f7 : ρ (.tmp 7) = .pointer (some ⟨w2.heap.size, 0, none⟩) := hf.1 7 (by simp [Op.operands])
      refine ok_value (v := .pointer (some ⟨w2.heap.size, 6, none⟩)) (w' := w') ?_ (hF.step 9 (.pointer (some ⟨w2.heap.size, 6, none⟩)) rfl (by decide))
      simp [execOp, f7, go_sem]
    · -- 10
      intro ρ f w' hF hfi hw hcl hf
      have n13 := noneS_of hcl hfi (j := 13) (by decide)
      have hc := HCR.out w' (hF.under HBS.out n13)
      have f53 : ρ (.tmp 53) = .pointer (some ⟨w2.heap.size, 6, none⟩) := hF.each 9 (.pointer (some ⟨w2.heap.size, 6, none⟩)) _ rfl (hf.1 53 (by simp [Op.operands]))
      refine ok_value (v := .slice (some ⟨g, 0, none⟩) L cl) (w' := w') ?_ (hF.step 10 (.slice (some ⟨g, 0, none⟩) L cl) rfl (by decide))
      simp [execOp, f53, go_sem, hc]
    · -- 11
      intro ρ f w' hF hfi hw hcl hf
      have f54 : ρ (.tmp 54) = .slice (some ⟨g, 0, none⟩) L cl := hF.each 10 (.slice (some ⟨g, 0, none⟩) L cl) _ rfl (hf.1 54 (by simp [Op.operands, Call.operands]))
      refine ok_value (v := .int .i64 (L : Int)) (w' := w') ?_ (hF.step 11 (.int .i64 (L : Int)) rfl (by decide))
      simp [f54, go_sem]
    · -- 12
      intro ρ f w' hF hfi hw hcl hf
      have f7 : ρ (.tmp 7) = .pointer (some ⟨w2.heap.size, 0, none⟩) := hf.1 7 (by simp [Op.operands])
      refine ok_value (v := .pointer (some ⟨w2.heap.size, 6, none⟩)) (w' := w') ?_ (hF.step 12 (.pointer (some ⟨w2.heap.size, 6, none⟩)) rfl (by decide))
      simp [execOp, f7, go_sem]
    · -- 13
      intro ρ f w' hF hfi hw hcl hf
      have f56 : ρ (.tmp 56) = .pointer (some ⟨w2.heap.size, 6, none⟩) := hF.each 12 (.pointer (some ⟨w2.heap.size, 6, none⟩)) _ rfl (hf.1 56 (by simp [Op.operands]))
      have f52 : f 8 = some (ρ (.tmp 52)) := hf.1 52 (by simp [Op.operands])
      obtain ⟨hm1, hm2, hm3⟩ := hF.mid _ f52 hfi
      have hz := HFZ.out w' (hF.under HBS.out hfi)
      obtain ⟨al, cl7, hv7, -⟩ := hm2.slice
      refine okS_skip (w' := w'.setCell ⟨w2.heap.size, 6, none⟩ (ρ (.tmp 52))) ?_ (hF.store f52 hfi rfl)
      rw [hv7]
      have hc := HCR.out w' (hF.under HBS.out hfi)
      simp [execOp, f56, hv7, go_sem, hz, hc]
    · -- 14
      intro ρ f w' hF hfi hw hcl hf
      refine ok_value (v := .int .i64 131) (w' := w') ?_ (hF.step 14 (.int .i64 131) rfl (by decide))
      simp [execOp, hf.2.1]
    · -- 15
      intro ρ f w' hF hfi hw hcl hf
      have f55 : ρ (.tmp 55) = .int .i64 (L : Int) := hF.each 11 (.int .i64 (L : Int)) _ rfl (hf.1 55 (by simp [Op.operands]))
      refine ok_value (v := .int .i64 (L : Int)) (w' := w') ?_ (hF.step 15 (.int .i64 (L : Int)) rfl (by decide))
      simp [execOp, f55, go_sem]
  case fini =>
    intro vs w5 hlen hF
    have hl0 : vs.length = 16 := hlen
    clear hlen
    obtain ⟨v0, t0, rfl, hl1⟩ := unconsS hl0
    clear hl0
    obtain ⟨v1, t1, rfl, hl2⟩ := unconsS hl1
    clear hl1
    obtain ⟨v2, t2, rfl, hl3⟩ := unconsS hl2
    clear hl2
    obtain ⟨v3, t3, rfl, hl4⟩ := unconsS hl3
    clear hl3
    obtain ⟨v4, t4, rfl, hl5⟩ := unconsS hl4
    clear hl4
    obtain ⟨v5, t5, rfl, hl6⟩ := unconsS hl5
    clear hl5
    obtain ⟨v6, t6, rfl, hl7⟩ := unconsS hl6
    clear hl6
    obtain ⟨v7, t7, rfl, hl8⟩ := unconsS hl7
    clear hl7
    obtain ⟨v8, t8, rfl, hl9⟩ := unconsS hl8
    clear hl8
    obtain ⟨v9, t9, rfl, hl10⟩ := unconsS hl9
    clear hl9
    obtain ⟨v10, t10, rfl, hl11⟩ := unconsS hl10
    clear hl10
    obtain ⟨v11, t11, rfl, hl12⟩ := unconsS hl11
    clear hl11
    obtain ⟨v12, t12, rfl, hl13⟩ := unconsS hl12
    clear hl12
    obtain ⟨v13, t13, rfl, hl14⟩ := unconsS hl13
    clear hl13
    obtain ⟨v14, t14, rfl, hl15⟩ := unconsS hl14
    clear hl14
    obtain ⟨v15, t15, rfl, hl16⟩ := unconsS hl15
    clear hl15
    obtain rfl := List.eq_nil_of_length_eq_zero hl16
    clear hl16
    have e14 := hF.each 14 (.int .i64 131) v14 rfl rfl
    have e15 := hF.each 15 (.int .i64 (L : Int)) v15 rfl rfl
    obtain ⟨w6, hb6, ho6, hn6, rfl⟩ := hF.late v8 rfl v13 rfl
    clear hF
    have hRT0 := (HRW.out.below (by omega) hb6).set 6 v8
    have hlen7 : (x.rc.zs ++ [z]).length = L + 1 := by rw [List.length_append, HLN.out]; rfl
    have hBT := (HB4.out.trans (hb6.mono (by omega))).setCell (p := ⟨w2.heap.size, 6, none⟩) hs4 v8
    have hOT := ho6.keptS (S := fun b => b ≠ w2.heap.size) (W' := w6.setCell ⟨w2.heap.size, 6, none⟩ v8) (by intro b hb; have := (World.ownsRow.lt ho6.2 b hb).1; omega) ((Kept.refl _ _).setCell (by simp) _)
    obtain ⟨aT, cT, heT, -, hcT1, hcT2, -, hzT⟩ := OwnU.byt hOT (by rw [hlen7]; omega) (fun i => getD_lt (n := 256) (by omega) (fun c hc => by rcases List.mem_append.1 hc with h | h; exact Nat.lt_trans (HLT.out c h) (by omega); have := List.mem_singleton.1 h; have := HZ256.out; omega) i)
    rw [hlen7] at heT hcT1 hzT
    obtain ⟨al, cl7, hv7, hne7⟩ := ho6.slice
    obtain ⟨gg, hgg⟩ := hne7 (by simp)
    subst hgg
    rw [hlen7] at hv7
    rw [hv7] at heT
    simp only [Value.slice.injEq, true_and] at heT
    obtain ⟨rfl, rfl⟩ := heT
    subst hv7
    have hgT : gg < (w6.setCell ⟨w2.heap.size, 6, none⟩ (.slice (some ⟨gg, 0, none⟩) (L + 1) cl7)).heap.size := by simp; exact (ho6.row (g := gg) rfl).2.1
    unfold maxLen at hcT2
    clear ho6 hOT hn6 hb6 hne7 hlen7
    generalize w6.setCell ⟨w2.heap.size, 6, none⟩ (.slice (some ⟨gg, 0, none⟩) (L + 1) cl7) = wT at *
    have hRT : Row wT w2.heap.size 27 #[.int .u64 (x.rc.h 0 : Int), .int .u64 (x.rc.h 1 : Int), .int .u64 (x.rc.h 2 : Int), .int .u64 (x.rc.h 3 : Int), .int .u8 (x.rc.t : Int), .int .u8 (x.rc.d : Int), .slice (some ⟨gg, 0, none⟩) (L + 1) cl7] := hRT0
    have hokT : ((⟨x.rc.h, x.rc.t, x.rc.d, x.rc.zs ++ [z]⟩ : Rc)).ok (L + 1) cl7 := ⟨fun j => hh64.out j, by show x.rc.t < 256; omega, by show x.rc.d < 256; omega, hcT1, by omega⟩
    have HV : Hid (((⟨x.rc.h, x.rc.t, x.rc.d, x.rc.zs ++ [z]⟩ : Rc)).v (some ⟨gg, 0, none⟩) (L + 1) cl7 = .agg #[.int .u64 (x.rc.h 0 : Int), .int .u64 (x.rc.h 1 : Int), .int .u64 (x.rc.h 2 : Int), .int .u64 (x.rc.h 3 : Int), .int .u8 (x.rc.t : Int), .int .u8 (x.rc.d : Int), .slice (some ⟨gg, 0, none⟩) (L + 1) cl7]) := Lib.hid rfl
    subst e14
    subst e15
    clear HCK HCR HFZ HRW HO HB4 HZ256 HBS hRT0 hcT1 hcT2
    generalize x.rc.zs ++ [z] = zs7 at *
    simp only [putAll, List.zip_cons_cons, List.zip_nil_right, List.foldl_cons, List.foldl_nil]
    simp only [Act.put, List.setIfInBounds_toArray, List.set_cons_succ, List.set_cons_zero]
    go_upto_region 30 with fail
    have hT2 := hBT.size
    have r0 := hRT.cell 0
    have r1 := hRT.cell 1
    have r2 := hRT.cell 2
    have r3 := hRT.cell 3
    have r4 := hRT.cell 4
    have r5 := hRT.cell 5
    have r6 := hRT.cell 6
    simp only [List.getElem?_toArray, List.getElem?_cons_zero, List.getElem?_cons_succ] at r0 r1 r2 r3 r4 r5 r6
    have hc5 := bad_right (some ⟨gg, 0, none⟩) (L + 1) cl7 wT hokT hzT (fun ad h => by injection h with h; subst h; exact hgT) HRV.out
    try rw [HV.out] at hc5
    have HC5 := Lib.hid hc5
    clear hc5
    go_wp2_with fail
    refine HC5.out.mono ?_
    rintro e w5 ⟨rfl, hb5⟩
    have hR5x := hRT.below hRT.lt hb5
    have hB5x := hBT.trans (hb5.mono hBT.size)
    have hz5x := hzT.below (Nat.le_refl _) hb5
    have hg5x := Nat.lt_of_lt_of_le hgT hb5.size
    clear r0 r1 r2 r3 r4 r5 r6 hRT hBT hzT hgT hb5 HC5
    have r0 := hR5x.cell 0
    have r1 := hR5x.cell 1
    have r2 := hR5x.cell 2
    have r3 := hR5x.cell 3
    have r4 := hR5x.cell 4
    have r5 := hR5x.cell 5
    have r6 := hR5x.cell 6
    simp only [List.getElem?_toArray, List.getElem?_cons_zero, List.getElem?_cons_succ] at r0 r1 r2 r3 r4 r5 r6
    have hc6 := bad_wins (by omega) (some ⟨gg, 0, none⟩) (L + 1) cl7 w5 hokT hz5x (fun ad h => by injection h with h; subst h; exact hg5x) HRV.out
    try rw [HV.out] at hc6
    have HC6 := Lib.hid hc6
    clear hc6
    go_wp2_with fail
    refine HC6.out.mono ?_
    rintro e w6 ⟨rfl, hb6⟩
    have hR6x := hR5x.below hR5x.lt hb6
    have hB6x := hB5x.trans (hb6.mono hB5x.size)
    have hz6x := hz5x.below (Nat.le_refl _) hb6
    have hg6x := Nat.lt_of_lt_of_le hg5x hb6.size
    clear r0 r1 r2 r3 r4 r5 r6 hR5x hB5x hz5x hg5x hb6 HC6
    have r0 := hR6x.cell 0
    have r1 := hR6x.cell 1
    have r2 := hR6x.cell 2
    have r3 := hR6x.cell 3
    have r4 := hR6x.cell 4
    have r5 := hR6x.cell 5
    have r6 := hR6x.cell 6
    simp only [List.getElem?_toArray, List.getElem?_cons_zero, List.getElem?_cons_succ] at r0 r1 r2 r3 r4 r5 r6
    have hc7 := bad_find (by omega) (some ⟨gg, 0, none⟩) (L + 1) cl7 w6 hokT hz6x (fun ad h => by injection h with h; subst h; exact hg6x) HRV.out
    try rw [HV.out] at hc7
    have HC7 := Lib.hid hc7
    clear hc7
    go_wp2_with fail
    refine HC7.out.mono ?_
    rintro e w7 ⟨rfl, hb7⟩
    have hR7x := hR6x.below hR6x.lt hb7
    have hB7x := hB6x.trans (hb7.mono hB6x.size)
    have hz7x := hz6x.below (Nat.le_refl _) hb7
    have hg7x := Nat.lt_of_lt_of_le hg6x hb7.size
    clear r0 r1 r2 r3 r4 r5 r6 hR6x hB6x hz6x hg6x hb7 HC7
    have r0 := hR7x.cell 0
    have r1 := hR7x.cell 1
    have r2 := hR7x.cell 2
    have r3 := hR7x.cell 3
    have r4 := hR7x.cell 4
    have r5 := hR7x.cell 5
    have r6 := hR7x.cell 6
    simp only [List.getElem?_toArray, List.getElem?_cons_zero, List.getElem?_cons_succ] at r0 r1 r2 r3 r4 r5 r6
    have hc8 := bad_moved (by omega) (some ⟨gg, 0, none⟩) (L + 1) cl7 w7 hokT hz7x (fun ad h => by injection h with h; subst h; exact hg7x) (by omega) HRV.out
    try rw [HV.out] at hc8
    have HC8 := Lib.hid hc8
    clear hc8
    go_wp2_with fail
    refine HC8.out.mono ?_
    rintro e w8 ⟨rfl, hb8⟩
    have hR8x := hR7x.below hR7x.lt hb8
    have hB8x := hB7x.trans (hb8.mono hB7x.size)
    have hz8x := hz7x.below (Nat.le_refl _) hb8
    have hg8x := Nat.lt_of_lt_of_le hg7x hb8.size
    clear r0 r1 r2 r3 r4 r5 r6 hR7x hB7x hz7x hg7x hb8 HC8
    have r0 := hR8x.cell 0
    have r1 := hR8x.cell 1
    have r2 := hR8x.cell 2
    have r3 := hR8x.cell 3
    have r4 := hR8x.cell 4
    have r5 := hR8x.cell 5
    have r6 := hR8x.cell 6
    simp only [List.getElem?_toArray, List.getElem?_cons_zero, List.getElem?_cons_succ] at r0 r1 r2 r3 r4 r5 r6
    have hc9 := bad_tricks (by omega) (some ⟨gg, 0, none⟩) (L + 1) cl7 w8 hokT hz8x (fun ad h => by injection h with h; subst h; exact hg8x) (by omega) HRV.out
    try rw [HV.out] at hc9
    have HC9 := Lib.hid hc9
    clear hc9
    go_wp2_with fail
    refine HC9.out.mono ?_
    rintro e w9 ⟨rfl, hb9⟩
    have hR9x := hR8x.below hR8x.lt hb9
    have hB9x := hB8x.trans (hb9.mono hB8x.size)
    have hz9x := hz8x.below (Nat.le_refl _) hb9
    have hg9x := Nat.lt_of_lt_of_le hg8x hb9.size
    clear r0 r1 r2 r3 r4 r5 r6 hR8x hB8x hz8x hg8x hb9 HC9
    have HB9 := Lib.hid hB9x
    clear hR9x hB9x hz9x hg9x
    go_wp2
    go_ret
    exact ⟨rfl, HB9.out⟩
end Go.Proofs.Ytdlnilebnobllaa

/- The body of finesselaw13.RevokeWrong over this seat's program: all eight ways. -/
namespace Go.Proofs.Ytdlnilebnobllaa
open Go.RowKit Go.Shelf Go.Sort

theorem law_RevokeWrong (x : Sk) (ao : Option Addr) (lo co : Nat) (ap : Option Addr) (lp cp : Nat) (n : Int) (way : Nat) (w : World) (ho : Byt w ao lo x.order) (hp : Byt w ap lp x.play)
    (hsz : x.size < 256) (htr : x.trumps < 256) (hde : x.decl < 256) (hn : -9223372036854775808 ≤ n ∧ n ≤ 9223372036854775807) (hway : way < 256) :
    Calls Try.prog 10 #[.agg (x.cells ao lo co ap lp cp), .int .i64 n, .int .u8 (way : Int)] w fun e w' => e = .returned (.bool true) ∧ Below w.heap.size w w' := by
  have h8 : way % 8 < 8 := Nat.mod_lt _ (by decide)
  rcases (show way % 8 = 0 ∨ way % 8 = 1 ∨ way % 8 = 2 ∨ way % 8 = 3 ∨ way % 8 = 4 ∨ way % 8 = 5 ∨ way % 8 = 6 ∨ way % 8 = 7 by omega) with h | h | h | h | h | h | h | h
  · exact law_RevokeWrong0 x ao lo co ap lp cp n way w ho hp hsz htr hde hn hway h
  · exact law_RevokeWrong1 x ao lo co ap lp cp n way w ho hp hsz htr hde hn hway h
  · exact law_RevokeWrong2 x ao lo co ap lp cp n way w ho hp hsz htr hde hn hway h
  · exact law_RevokeWrong3 x ao lo co ap lp cp n way w ho hp hsz htr hde hn hway h
  · exact law_RevokeWrong4 x ao lo co ap lp cp n way w ho hp hsz htr hde hn hway h
  · exact law_RevokeWrong5 x ao lo co ap lp cp n way w ho hp hsz htr hde hn hway h
  · exact law_RevokeWrong6 x ao lo co ap lp cp n way w ho hp hsz htr hde hn hway h
  · exact law_RevokeWrong7 x ao lo co ap lp cp n way w ho hp hsz htr hde hn hway h
end Go.Proofs.Ytdlnilebnobllaa
