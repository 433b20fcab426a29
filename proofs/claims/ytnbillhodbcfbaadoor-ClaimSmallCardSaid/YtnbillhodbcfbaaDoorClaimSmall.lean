/- ClaimSmall over this seat's program. -/
import Derived.Test.YtnbillhodbcfbaaDoorCrJ
import Derived.Test.YtnbillhodbcfbaaDoorMCls
import Derived.Test.YtnbillhodbcfbaaDoorDmPk
namespace Go.Proofs.YtnbillhodbcfbaaDoor
open Go.RowKit Go.Sort Go.Shelf Go.Maps Go.WideMaps

theorem list15 {l : List Value} (h : l.length = 15) : ∃ y0 y1 y2 y3 y4 y5 y6 y7 y8 y9 y10 y11 y12 y13 y14, l = [y0, y1, y2, y3, y4, y5, y6, y7, y8, y9, y10, y11, y12, y13, y14] := by
  match l, h with
  | [y0, y1, y2, y3, y4, y5, y6, y7, y8, y9, y10, y11, y12, y13, y14], _ => exact ⟨y0, y1, y2, y3, y4, y5, y6, y7, y8, y9, y10, y11, y12, y13, y14, rfl⟩
theorem ch_rights : ∀ t, t < 5 → ∀ l, l < 4 → rightB CH t l [] = true := by decide +kernel
theorem ch_pops : ∀ s, s < 4 → pop (CH s) = 2 := by decide +kernel
theorem all_at : ∀ i, i < 9 → ∃ c : Nat, c < 52 ∧ (#[.int .u8 51, .int .u8 49, .int .u8 14, .int .u8 26, .int .u8 39, .int .u8 13, .int .u8 50, .int .u8 40, .int .u8 0] : Array Value)[i]? = some (.int .u8 (c : Int)) := by
  intro i hi
  rcases (show i = 0 ∨ i = 1 ∨ i = 2 ∨ i = 3 ∨ i = 4 ∨ i = 5 ∨ i = 6 ∨ i = 7 ∨ i = 8 by omega) with rfl | rfl | rfl | rfl | rfl | rfl | rfl | rfl | rfl
  · exact ⟨51, by decide, rfl⟩
  · exact ⟨49, by decide, rfl⟩
  · exact ⟨14, by decide, rfl⟩
  · exact ⟨26, by decide, rfl⟩
  · exact ⟨39, by decide, rfl⟩
  · exact ⟨13, by decide, rfl⟩
  · exact ⟨50, by decide, rfl⟩
  · exact ⟨40, by decide, rfl⟩
  · exact ⟨0, by decide, rfl⟩
theorem byt_row0s {W : World} {b : Nat} (ln : List Nat) (h : Row W b 5 (ln.map fun (z : Nat) => Value.int .u8 (z : Int)).toArray) (h256 : ∀ y ∈ ln, y < 256) (hl : ln.length ≤ 1000) : Byt W (some ⟨b, 0, none⟩) ln.length ln := by
  refine ⟨rfl, by omega, fun i => ?_, .inr ⟨b, 0, rfl, h.lt, fun i hi => ?_⟩⟩
  · rcases Nat.lt_or_ge i ln.length with h | h
    · exact h256 _ (by rw [List.getD_eq_getElem?_getD, List.getElem?_eq_getElem h]; exact List.getElem_mem h)
    · rw [List.getD_eq_getElem?_getD, List.getElem?_eq_none h]; exact (by decide : (0 : Nat) < 256)
  · rw [Nat.zero_add, h.cell i]
    simp [List.getD_eq_getElem?_getD, hi]
/-- four lines that are none -/
def badS (s : Nat) : Array Value := #[.slice (some ⟨s, 0, none⟩) 1 1, .slice (some ⟨s + 1, 0, none⟩) 2 2, .slice (some ⟨s + 1 + 1, 0, none⟩) 2 2, .slice (some ⟨s + 1 + 1 + 1, 0, none⟩) 25 25]
theorem bad_line {W : World} {s : Nat} (h1 : Row W s 5 #[.int .u8 52]) (h2 : Row W (s + 1) 5 #[.int .u8 39, .int .u8 39]) (h3 : Row W (s + 1 + 1) 5 #[.int .u8 255, .int .u8 1]) (h4 : Row W (s + 1 + 1 + 1) 5 (Array.replicate 25 (.int .u8 0))) {k : Nat} (hk : k < 4) :
    ∃ (la : Option Addr) (ln : List Nat) (nl lcap : Nat), ln.length = nl ∧ ln.length ≤ 60 ∧ Byt W la ln.length ln ∧ (badS s)[k]? = some (.slice la nl lcap) := by
  rcases (show k = 0 ∨ k = 1 ∨ k = 2 ∨ k = 3 by omega) with rfl | rfl | rfl | rfl
  · exact ⟨some ⟨s, 0, none⟩, [52], 1, 1, rfl, by decide, byt_row0s [52] h1 (by decide) (by decide), rfl⟩
  · exact ⟨some ⟨s + 1, 0, none⟩, [39, 39], 2, 2, rfl, by decide, byt_row0s [39, 39] h2 (by decide) (by decide), rfl⟩
  · exact ⟨some ⟨s + 1 + 1, 0, none⟩, [255, 1], 2, 2, rfl, by decide, byt_row0s [255, 1] h3 (by decide) (by decide), rfl⟩
  · exact ⟨some ⟨s + 1 + 1 + 1, 0, none⟩, List.replicate 25 0, 25, 25, by decide, by decide, byt_row0s (List.replicate 25 0) (by rw [show (List.map (fun (z : Nat) => Value.int .u8 (z : Int)) (List.replicate 25 0)).toArray = Array.replicate 25 (Value.int .u8 0) from rfl]; exact h4) (by decide) (by decide), rfl⟩
theorem make_bytesS (n : Nat) (hn : n ≤ 1000) (w1 : World) : (Instr.makeSlice 25 (.int .i64 (n : Int)) (.int .i64 (n : Int))).run Tryd.prog w1 = .ok (.slice (some ⟨w1.heap.size, 0, none⟩) n n) (w1.alloc (.cells (Array.replicate n (.int .u8 0)) 5)) := by
  obtain ⟨i, hq, h0, h1, h2⟩ := info_parts info_u8'
  have hr := run_makeSlice (P := Tryd.prog) w1 25 5 i (.int .u8 0) Tryd.underlying25 hq h0 .i64 .i64 (n : Int) (n : Int) (by omega) (by omega) (by rw [h1]; simp; omega) (by rw [h2]; omega) (by omega)
  have e : madeCells (Value.int .u8 0).cells n = Array.replicate n (.int .u8 0) := by
    apply Array.ext_getElem?
    intro j
    by_cases hj : j < n
    · simp [madeCells, hj, Value.cells, Nat.mod_one]
    · rw [Array.getElem?_eq_none (by simp [size_madeCells]; omega), Array.getElem?_eq_none (by simp; omega)]
  rw [hr]
  simp only [Int.toNat_natCast, h1, Nat.mul_one, e]
theorem but_setRowS (B g : Nat) (W : World) (cs : Array Value) : But B g W (W.setRow g cs) := ⟨rfl, rfl, rfl, Nat.le_of_eq (size_setRow _ _ _).symm, fun _ _ hne => setRow_other _ _ _ _ hne⟩
/-- a card is played, and the position stored -/
def KmS (w1 : World) (b7 : Nat) (PQ : Array Value) (u : Tb) (tr wk : Nat) (vs _us : List Value) (W : World) : Prop := match vs with
  | [] => Below w1.heap.size w1 W ∧ Row W b7 27 PQ ∧ True
  | [r] => Below w1.heap.size w1 W ∧ Row W b7 27 PQ ∧ ∃ v, r = .tuple #[.agg (posA u.h tr u.ld v), .int .i64 (wk : Int), .int .i64 0] ∧ OwnU W w1.heap.size v u.cs
  | [_, r] => Below w1.heap.size w1 W ∧ Row W b7 27 PQ ∧ ∃ v, r = .tuple #[.agg (posA u.h tr u.ld v), .int .i64 (wk : Int), .int .i64 0] ∧ OwnU W w1.heap.size v u.cs
  | [_, r, x] => Below w1.heap.size w1 W ∧ Row W b7 27 PQ ∧ ∃ v, r = .tuple #[.agg (posA u.h tr u.ld v), .int .i64 (wk : Int), .int .i64 0] ∧ x = .agg (posA u.h tr u.ld v) ∧ OwnU W w1.heap.size v u.cs
  | [_, r, _, _] => ∃ v, r = .tuple #[.agg (posA u.h tr u.ld v), .int .i64 (wk : Int), .int .i64 0] ∧ OwnU W w1.heap.size v u.cs ∧ Row W b7 27 (posA u.h tr u.ld v) ∧ But w1.heap.size b7 w1 W
  | _ => False
theorem KmS.early {w1 W : World} {b7 tr wk : Nat} {PQ : Array Value} {u : Tb} {vs us : List Value} (h : KmS w1 b7 PQ u tr wk vs us W) (hl : vs.length ≤ 3) : Row W b7 27 PQ := by
  match vs, h with
  | [], h => exact h.2.1
  | [_], h => exact h.2.1
  | [_, _], h => exact h.2.1
  | [_, _, _], h => exact h.2.1
  | [_, _, _, _], _ => exact absurd hl (by simp)
theorem KmS.tup {w1 W : World} {b7 tr wk : Nat} {PQ : Array Value} {u : Tb} {vs us : List Value} {y : Value} (h : KmS w1 b7 PQ u tr wk vs us W) (hy : vs[1]? = some y) : ∃ v, y = .tuple #[.agg (posA u.h tr u.ld v), .int .i64 (wk : Int), .int .i64 0] := by
  match vs, h, hy with
  | [_, r], ⟨_, _, v, e, _⟩, hy => exact ⟨v, (Option.some.inj (show some r = some y from hy)).symm.trans e⟩
  | [_, r, _], ⟨_, _, v, e, _⟩, hy => exact ⟨v, (Option.some.inj (show some r = some y from hy)).symm.trans e⟩
  | [_, r, _, _], ⟨v, e, _⟩, hy => exact ⟨v, (Option.some.inj (show some r = some y from hy)).symm.trans e⟩
theorem KmS.bel {w1 W : World} {b7 tr wk g i : Nat} {PQ : Array Value} {u : Tb} {vs us : List Value} (h : KmS w1 b7 PQ u tr wk vs us W) (hg : g < w1.heap.size) (hne : g ≠ b7) : W.cell? ⟨g, i, none⟩ = w1.cell? ⟨g, i, none⟩ := by
  have hb : But w1.heap.size b7 w1 W := by
    match vs, h with
    | [], h => exact But.of_below h.1
    | [_], h => exact But.of_below h.1
    | [_, _], h => exact But.of_below h.1
    | [_, _, _], h => exact But.of_below h.1
    | [_, _, _, _], ⟨_, _, _, _, h⟩ => exact h
  exact World.cell?_of_block (a := ⟨g, i, none⟩) (hb.same g hg hne)
set_option maxHeartbeats 16000000 in
set_option maxRecDepth 10000 in
theorem law_ClaimSmall (w : World) (hT : Tab w) : Calls Tryd.prog 3 #[] w fun e w' => e = .returned (.bool true) ∧ Below w.heap.size w w' := by
  have HT := Lib.hid hT
  obtain ⟨lb, hlb⟩ : ∃ b, w.heap.size + 1 = b := ⟨_, rfl⟩
  have HEX := Lib.hid (cl_Example w)
  rw [hlb] at HEX
  have HTL := Lib.hid (fun (tr ld : Nat) (htr : tr < 5) (hld : ld < 4) (sd : Nat) (hsd : sd < 256) (tk : Int) (ln : List Nat) (la : Option Addr) (lcap : Nat) (h60 : ln.length ≤ 60) (W : World) (hl : Byt W la ln.length ln) (hT : Tab W) => law16_tells CH tr ld [] none 0 sd tk ln la lcap W ch_w64 (by omega) (by omega) hsd (ch_nil W) hl hT (by decide) h60 (fun _ => by rw [ch_pops _ (Nat.mod_lt _ (by decide))]; decide))
  have HP0 : Hid (∀ t l, t < 5 → l < 4 → PosT 2 ⟨CH, l, []⟩) := Lib.hid fun t l ht hl => by
    have := (PosT.of (tr := t) (ld := l) (ps := []) ch_w64 (ch_rights t ht l hl)).1
    rw [ch_pops _ (Nat.mod_lt _ (by decide))] at this
    exact this
  obtain ⟨PA, hPA⟩ : ∃ A, posA CH 4 2 (.slice none 0 0) = A := ⟨_, rfl⟩
  have HPA := Lib.hid hPA
  rw [hPA] at HEX
  have HPZ : Hid (PA.size = 7 ∧ PA.all (·.oneCell') = true) := Lib.hid (by rw [← hPA]; exact ⟨rfl, by simp [posA, Value.oneCell']⟩)
  clear hPA hlb hT
  go_enter Tryd.func3, Tryd.ntmps3
  go_wp2_with fail
  refine HEX.out.mono ?_
  rintro e w1 ⟨rfl, hz1, hb1⟩
  have HN := Lib.hid (Row.new w1 27 zeroP)
  have ha := below_setRow ((Below.refl w1.heap.size w1).alloc (Nat.le_refl _) (.cells zeroP 27)) (Nat.le_refl _) PA
  have HR := Lib.hid (show Row ((w1.alloc (.cells zeroP 27)).setRow w1.heap.size PA) w1.heap.size 27 PA from setRow_heap _ _ _ _ _ _ HN.out)
  have HB := Lib.hid (hb1.trans (ha.mono hb1.size))
  have HY := Lib.hid (hz1.below (Nat.le_refl _) ha)
  clear hb1 ha hz1 HEX
  go_upto_region 2 with (refine wpList_store_row rfl 27 (.tmp 1) (.tmp 17) rfl w1.heap.size PA rfl rfl 27 _ HN.out (by rw [HPZ.out.1]; exact size_pos) (by rw [HPZ.out.1]; rfl) HPZ.out.2 ?_)
  generalize (w1.alloc (.cells zeroP 27)).setRow w1.heap.size PA = w2 at *
  obtain ⟨bp, hbp⟩ : ∃ b, w1.heap.size = b := ⟨_, rfl⟩
  rw [hbp] at HR ⊢
  clear hbp HN
  have HALL := Lib.hid (Row.new w2 5 #[.int .u8 51, .int .u8 49, .int .u8 14, .int .u8 26, .int .u8 39, .int .u8 13, .int .u8 50, .int .u8 40, .int .u8 0])
  have ha := (Below.refl w2.heap.size w2).alloc (Nat.le_refl _) (.cells #[.int .u8 51, .int .u8 49, .int .u8 14, .int .u8 26, .int .u8 39, .int .u8 13, .int .u8 50, .int .u8 40, .int .u8 0] 5)
  have HRA := Lib.hid (HR.out.later ha)
  have HBA := Lib.hid (HB.out.trans (ha.mono HB.out.size))
  have HYA := Lib.hid (HY.out.below (Nat.le_refl _) ha)
  have HTA := Lib.hid (HT.out.below HT.out.pos HBA.out)
  clear ha HR HB HY
  go_upto_region 4 with fail
  show Code.wp _ _ _ _ (w2.alloc (.cells #[.int .u8 51, .int .u8 49, .int .u8 14, .int .u8 26, .int .u8 39, .int .u8 13, .int .u8 50, .int .u8 40, .int .u8 0] 5))
  generalize w2.alloc (.cells #[.int .u8 51, .int .u8 49, .int .u8 14, .int .u8 26, .int .u8 39, .int .u8 13, .int .u8 50, .int .u8 40, .int .u8 0] 5) = wA at *
  obtain ⟨b3, hb3⟩ : ∃ b, w2.heap.size = b := ⟨_, rfl⟩
  rw [hb3] at HALL ⊢
  clear hb3
  have HWA := Lib.hid HBA.out.size
  try dsimp only [Act.put]
  go_loopg [20] 24 (fun g kv wr => ∃ (n : Nat), g = 24 - n ∧ n ≤ 24 ∧ kv = .int .i64 (n : Int) ∧ Below wA.heap.size wA wr)
  case atStart => exact ⟨0, rfl, by omega, rfl, Below.refl _ _⟩
  case round =>
    obtain ⟨n, rfl, hn24, rfl, hbn⟩ := hrel
    have HN0 := Lib.hid hbn
    clear hbn
    by_cases hlt : n < 24
    · have hdk : decide (n < 24) = true := by simp; omega
      have hnI : (n : Int) < 24 := by omega
      generalize wr = w4 at *
      obtain ⟨a2, ha2⟩ : ∃ z, n % 2 = z := ⟨_, rfl⟩
      obtain ⟨n4, hn4⟩ : ∃ z, n % 4 = z := ⟨_, rfl⟩
      obtain ⟨n5, hn5⟩ : ∃ z, n % 5 = z := ⟨_, rfl⟩
      have ha2l : a2 < 2 := by omega
      have hn4l : n4 < 4 := by omega
      have hn5l : n5 < 5 := by omega
      have t2 : (n : Int).tmod 2 = (a2 : Int) := by rw [Int.tmod_eq_emod_of_nonneg (by omega)]; omega
      have t2' : (n : Int) % 2 = (a2 : Int) := by omega
      have t4 : (n : Int).tmod 4 = (n4 : Int) := by rw [Int.tmod_eq_emod_of_nonneg (by omega)]; omega
      have t4' : (n : Int) % 4 = (n4 : Int) := by omega
      have t5 : (n : Int).tmod 5 = (n5 : Int) := by rw [Int.tmod_eq_emod_of_nonneg (by omega)]; omega
      have t5' : (n : Int) % 5 = (n5 : Int) := by omega
      have HTM := Lib.hid (And.intro (And.intro t2 t2') (And.intro (And.intro t4 t4') (And.intro t5 t5')))
      clear ha2 hn4 hn5 t2 t2' t4 t4' t5 t5'
      go_upto_region 8 with fail
      try dsimp only [Act.put]
      go_loopg [5, 25] 9 (fun g lv iv wi => ∃ (i : Nat) (o : List Nat), g = 9 - i ∧ i ≤ 9 ∧ iv = .int .i64 (i : Int) ∧ o.length ≤ i ∧ (∀ y ∈ o, y < 52) ∧ OwnU wi w4.heap.size lv o ∧ Below w4.heap.size w4 wi)
      case atStart => exact ⟨0, [], rfl, by omega, rfl, Nat.le_refl _, (fun y hy => by cases hy), Owns.nil encU_len _ _, Below.refl _ _⟩
      case round =>
      obtain ⟨i, o, rfl, hi9, rfl, hol, ho52, hown, hbi⟩ := hrel
      have HOL := Lib.hid (And.intro hol ho52)
      have HOW := Lib.hid hown
      have HBI := Lib.hid hbi
      clear hol ho52 hown hbi
      by_cases hil : i < 9
      · have hdi : decide (i < 9) = true := by simp; omega
        have hiI : (i : Int) < 9 := by omega
        obtain ⟨r3, hr3⟩ : ∃ z, (i + n) % 3 = z := ⟨_, rfl⟩
        have h31 : ((i : Int) + (n : Int)).tmod 3 = (r3 : Int) := by rw [Int.tmod_eq_emod_of_nonneg (by omega)]; omega
        have h32 : ((i : Int) + (n : Int)) % 3 = (r3 : Int) := by omega
        clear hr3
        by_cases h0 : 0 < r3
        · have hd0 : decide (0 < r3) = true := by simp; omega
          have t2 := HTM.out.1.1
          have t2' := HTM.out.1.2
          obtain ⟨m3, hm3⟩ : ∃ z, a2 * 3 = z := ⟨_, rfl⟩
          obtain ⟨m4, hm4⟩ : ∃ z, 1 + m3 = z := ⟨_, rfl⟩
          obtain ⟨m5, hm5⟩ : ∃ z, i * m4 = z := ⟨_, rfl⟩
          have hm4l : m4 ≤ 4 := by omega
          have hm5l : m5 ≤ 36 := by rw [← hm5]; exact Nat.mul_le_mul (show i ≤ 9 by omega) hm4l
          obtain ⟨ix, hix⟩ : ∃ z, (m5 + n) % 9 = z := ⟨_, rfl⟩
          have hixl : ix < 9 := by omega
          have e3 : (a2 : Int) * 3 = (m3 : Int) := by omega
          have e4 : 1 + (m3 : Int) = (m4 : Int) := by omega
          have e5 : (i : Int) * (m4 : Int) = (m5 : Int) := by rw [← hm5]; simp
          have e6 : ((m5 : Int) + (n : Int)).tmod 9 = (ix : Int) := by rw [Int.tmod_eq_emod_of_nonneg (by omega)]; omega
          have e6' : ((m5 : Int) + (n : Int)) % 9 = (ix : Int) := by omega
          obtain ⟨c, hc52, hcx⟩ := all_at ix hixl
          have ek : wr.cell? ⟨b3, ix, none⟩ = some (.int .u8 (c : Int)) := ((HALL.out.later (HN0.out.trans (HBI.out.mono HN0.out.size))).cell ix).trans hcx
          have HC := Lib.hid hc52
          have hix9 : (ix : Int) < 9 := by omega
          clear hm3 hm4 hm5 hix hcx h0
          go_upto_region 12 with (at_builtin; refine appU rfl (.tmp 33) (.tmp 48) rfl w4.heap.size _ o [c] rfl (HOW.out.alloc _) _ _ _ rfl (byt_new1 wr c (by have := HC.out; omega)) (by have := HOL.out.1; omega) (by rw [World.size_alloc]; have := HBI.out.size; omega) ?_; intro v2 w10 hown10 hb10 hg10 hnb10)
          have HO10 := Lib.hid hown10
          have HB10 := Lib.hid (HBI.out.trans (((Below.refl w4.heap.size wr).alloc HBI.out.size (.cells #[.int .u8 (c : Int)] 5)).trans hb10))
          clear hown10 hb10 hg10 hnb10 ek e3 e4 e5 e6 e6'
          go_wp2_with fail
          go_roundg (9 - (i + 1))
          case measure => omega
          case rel => exact ⟨i + 1, o ++ [c], rfl, by omega, by go_num, by rw [List.length_append]; have := HOL.out.1; simp; omega, (fun y hy => by
            rcases List.mem_append.1 hy with h | h
            · exact HOL.out.2 y h
            · rcases List.mem_singleton.1 h with rfl; exact HC.out), HO10.out, HB10.out⟩
        · have hd0 : decide (0 < r3) = false := by simp; omega
          clear h0
          go_wp2_with fail
          go_roundg (9 - (i + 1))
          case measure => omega
          case rel => exact ⟨i + 1, o, rfl, by omega, by go_num, by have := HOL.out.1; omega, HOL.out.2, HOW.out, HBI.out⟩
      · obtain rfl : i = 9 := by omega
        have hdi : decide (9 < 9) = false := by simp
        obtain ⟨la, lc, hle, hlby, hlbd⟩ := LnM.of_own HOW.out (by have := HOL.out.1; omega) HOL.out.2
        subst hle
        have HLL : Hid (o.length ≤ 60) := Lib.hid (by have := HOL.out.1; omega)
        obtain ⟨nl, hnl⟩ : ∃ z, o.length = z := ⟨_, rfl⟩
        have HNL := Lib.hid hnl
        have HLBY := Lib.hid hlby
        have HWR := Lib.hid (HN0.out.trans (HBI.out.mono HN0.out.size))
        rw [hnl]
        clear hil hnl hlby hlbd HOW
        generalize wr = w6 at *
        have HRP6 := Lib.hid (HRA.out.later HWR.out)
        have HN7 := Lib.hid (Row.new w6 27 zeroP)
        have ha := below_setRow ((Below.refl w6.heap.size w6).alloc (Nat.le_refl _) (.cells zeroP 27)) (Nat.le_refl _) PA
        have H7 := Lib.hid (show Row ((w6.alloc (.cells zeroP 27)).setRow w6.heap.size PA) w6.heap.size 27 PA from setRow_heap _ _ _ _ _ _ HN7.out)
        have HA7 := Lib.hid ha
        clear ha
        go_upto_region 14 with (first
          | refine wpList_load_row rfl 27 (.tmp 1) rfl bp rfl 27 PA (0, 0) _ HRP6.out Tryd.underlying27 rfl (by rw [HPZ.out.1]; exact size_pos) ?_
          | refine wpList_store_row rfl 27 (.tmp 7) (.tmp 51) rfl w6.heap.size PA rfl rfl 27 _ HN7.out (by rw [HPZ.out.1]; exact size_pos) (by rw [HPZ.out.1]; rfl) HPZ.out.2 ?_)
        generalize (w6.alloc (.cells zeroP 27)).setRow w6.heap.size PA = w7 at *
        obtain ⟨b7, hb7⟩ : ∃ b, w6.heap.size = b := ⟨_, rfl⟩
        have HB7E := Lib.hid hb7
        rw [hb7] at H7 ⊢
        clear hb7 HN7 HRP6
        have t4 := HTM.out.2.1.1
        have t4' := HTM.out.2.1.2
        have t5 := HTM.out.2.2.1
        have t5' := HTM.out.2.2.2
        have w4w : IntKind.u8.wrap (n4 : Int) = (n4 : Int) := by rw [IntKind.wrap_u8]; omega
        have w5w : IntKind.u8.wrap (n5 : Int) = (n5 : Int) := by rw [IntKind.wrap_u8]; omega
        have f4 := H7.out.frozen 4
        have f5 := H7.out.frozen 5
        have c4 : w7.cell? ⟨b7, 4, none⟩ = some (.int .u8 4) := (H7.out.cell 4).trans (by rw [← HPA.out]; rfl)
        have c5 : w7.cell? ⟨b7, 5, none⟩ = some (.int .u8 2) := (H7.out.cell 5).trans (by rw [← HPA.out]; rfl)
        have H8 := Lib.hid ((H7.out.set 5 (.int .u8 (n4 : Int))).set 4 (.int .u8 (n5 : Int)))
        have hset : (PA.setIfInBounds 5 (.int .u8 (n4 : Int))).setIfInBounds 4 (.int .u8 (n5 : Int)) = posA CH n5 n4 (.slice none ([] : List Nat).length 0) := by rw [← HPA.out]; rfl
        rw [hset] at H8
        have HA8 : Hid (Below w6.heap.size w6 ((w7.setCell ⟨b7, 5, none⟩ (.int .u8 (n4 : Int))).setCell ⟨b7, 4, none⟩ (.int .u8 (n5 : Int)))) := Lib.hid ((HA7.out.setCell (p := ⟨b7, 5, none⟩) (by rw [← HB7E.out]; exact Nat.le_refl _) _).setCell (p := ⟨b7, 4, none⟩) (by rw [← HB7E.out]; exact Nat.le_refl _) _)
        clear hset
        go_upto_region 16 with fail
        clear c4 c5 f4 f5 H7 HA7
        generalize (w7.setCell ⟨b7, 5, none⟩ (.int .u8 (n4 : Int))).setCell ⟨b7, 4, none⟩ (.int .u8 (n5 : Int)) = w8 at *
        have HBW : Hid (∀ W, Below w6.heap.size w6 W → Below w.heap.size w W) := Lib.hid fun W hb => HBA.out.trans ((HWR.out.trans (hb.mono HWR.out.size)).mono HBA.out.size)
        have HPOS0 := Lib.hid (HP0.out n5 n4 hn5l hn4l)
        have HTL3 := Lib.hid (fun s (hs : s < 256) tk => HTL.out n5 n4 hn5l hn4l s hs tk o la lc HLL.out)
        rw [HNL.out] at HTL3
        obtain ⟨PQ0, hPQ0⟩ : ∃ A, posA CH n5 n4 (.slice none ([] : List Nat).length 0) = A := ⟨_, rfl⟩
        have HPQ0 := Lib.hid hPQ0
        have HPQ0Z : Hid (PQ0.size = 7) := Lib.hid (by rw [← hPQ0]; rfl)
        rw [hPQ0] at H8 HTL3
        clear hPQ0
        have HLB6 : Hid (∀ W, Below w6.heap.size w6 W → Byt W la nl o) := Lib.hid fun W hb => by have := HLBY.out.below (Nat.le_refl _) hb; rw [HNL.out] at this; exact this
        try dsimp only [Act.put]
        go_loopg [60] 3 (fun g kv wi => ∃ (s : Nat), g = 3 - s ∧ s ≤ 3 ∧ kv = .int .i64 (s : Int) ∧ Row wi b7 27 PQ0 ∧ Below w6.heap.size w6 wi)
        case atStart => exact ⟨0, rfl, by omega, rfl, H8.out, HA8.out⟩
        case round =>
        obtain ⟨s, rfl, hs3, rfl, hr7, hb7⟩ := hrel
        have HR7 := Lib.hid hr7
        have HBI7 := Lib.hid hb7
        clear hr7 hb7
        by_cases hsl : s < 3
        · have hds : decide (s < 3) = true := by simp; omega
          have hsI : (s : Int) < 3 := by omega
          have hsw : IntKind.u8.wrap (s : Int) = (s : Int) := by rw [IntKind.wrap_u8]; omega
          have HC3 := Lib.hid (HTL3.out s (by omega) ((n4 : Int) - 1) wr (HLB6.out _ HBI7.out) (HT.out.below HT.out.pos (HBW.out _ HBI7.out)))
          go_wp2_with (refine wpList_load_row rfl 27 (.tmp 7) rfl b7 rfl 27 PQ0 (0, 0) _ HR7.out Tryd.underlying27 rfl (by rw [HPQ0Z.out]; exact size_pos) ?_)
          refine HC3.out.mono ?_
          rintro e wj ⟨rfl, hbj⟩
          have HR9 := Lib.hid (HR7.out.later hbj)
          have HB9 := Lib.hid (HBI7.out.trans (hbj.mono HBI7.out.size))
          clear hbj
          go_wp2_with fail
          go_roundg (3 - (s + 1))
          case measure => omega
          case rel => exact ⟨s + 1, rfl, by omega, by go_num, HR9.out, HB9.out⟩
        · obtain rfl : s = 3 := by omega
          have hds : decide (3 < 3) = false := by simp
          clear hsl
          go_upto_region 22 with fail
          try dsimp only [Act.put]
          go_loopg [75] n4 (fun g kv wi => ∃ (i : Nat) (t : Tb) (q1 : Nat) (ua : Option Addr) (uc : Nat), g = n4 - i ∧ i ≤ n4 ∧ kv = .int .i64 (i : Int) ∧ Row wi b7 27 (posA t.h n5 t.ld (.slice ua t.cs.length uc)) ∧ OwnU wi w6.heap.size (.slice ua t.cs.length uc) t.cs ∧ PosT q1 t ∧ (8 - i) + t.cs.length = 4 * q1 ∧ q1 ≤ 2 ∧ Below w6.heap.size w6 wi)
          case atStart => exact ⟨0, ⟨CH, n4, []⟩, 2, none, 0, rfl, by omega, rfl, by rw [HPQ0.out]; exact HR7.out, Owns.nil encU_len _ _, HPOS0.out, rfl, by omega, HBI7.out⟩
          case round =>
          obtain ⟨i, t, q1, ua, uc, rfl, hi4, rfl, hr7, ho7, hpos, hkq, hq2, hb7⟩ := hrel
          have HRX := Lib.hid hr7
          have HOX := Lib.hid ho7
          have HPOS := Lib.hid hpos
          have HBX := Lib.hid hb7
          have HTX := Lib.hid (HT.out.below HT.out.pos (HBW.out _ hb7))
          obtain ⟨ua', uc', hue, hyt⟩ := OwnU.playedX ho7 hpos.ok
          have hyt2 : Byt wr ua t.cs.length t.cs := by
            injection hue with x1 x2 x3
            rw [x1]; exact hyt
          have HYX := Lib.hid hyt2
          have hcl := hpos.ok.pk.2
          have HTN : Hid (pop (t.h ((t.ld + t.cs.length) % 4)) = q1) := Lib.hid (hpos.evn.turn hcl)
          have HRT := Lib.hid (hpos.right (tr := n5) (by omega))
          have HLD : Hid (t.ld < 256) := Lib.hid (by have := hpos.ok.ld; omega)
          have HPQZ0 : Hid ((posA t.h n5 t.ld (.slice ua t.cs.length uc)).size = 7) := Lib.hid rfl
          have hte : Tb.mk t.h t.ld t.cs = t := rfl
          clear hr7 ho7 hpos hb7 hue hyt hyt2
          by_cases hil4 : i < n4
          · have hdi4 : decide (i < n4) = true := by simp; omega
            have HCH := Lib.hid (dm_Choices_ok t.h n5 t.ld t.cs ua uc HPOS.out.ok.w64 (by omega) HLD.out wr HYX.out HTX.out q1 HTN.out (by omega) HRT.out)
            rw [hte] at HCH
            have hq0 : 0 < q1 := by omega
            have hcne := cards_some HPOS.out.ok HPOS.out.evn hq0
            have HN0' : Hid ((t.cards.map fun c => (c, worth n5 (4 * q1 - t.cs.length - 1) t c)).length ≠ 0) := Lib.hid (by rw [List.length_map]; exact fun e => hcne (List.length_eq_zero_iff.1 e))
            have HN52 : Hid ((t.cards.map fun c => (c, worth n5 (4 * q1 - t.cs.length - 1) t c)).length ≤ 52) := Lib.hid (by rw [List.length_map]; unfold Tb.cards; exact Nat.le_trans (List.length_filter_le _ _) (by rw [List.length_range]; exact Nat.le_refl _))
            have HMEM : Hid (∀ x ∈ (t.cards.map fun c => (c, worth n5 (4 * q1 - t.cs.length - 1) t c)), t.legal x.1 = true) := Lib.hid fun x hx => by
              obtain ⟨c, hc, rfl⟩ := List.mem_map.1 hx
              exact (mem_cards.1 hc).2
            obtain ⟨CLs, hCL⟩ : ∃ l, (t.cards.map fun c => (c, worth n5 (4 * q1 - t.cs.length - 1) t c)) = l := ⟨_, rfl⟩
            rw [hCL] at HCH HN0' HN52 HMEM
            obtain ⟨PQ, hPQ⟩ : ∃ A, posA t.h n5 t.ld (.slice ua t.cs.length uc) = A := ⟨_, rfl⟩
            have HPQE := Lib.hid hPQ
            rw [hPQ] at HCH HRX HPQZ0
            have HPQZ := Lib.hid HPQZ0.out
            clear hPQ hCL hcne
            go_wp2_with (refine wpList_load_row rfl 27 (.tmp 7) rfl b7 rfl 27 PQ (0, 0) _ HRX.out Tryd.underlying27 rfl (by rw [HPQZ.out]; exact size_pos) ?_)
            refine HCH.out.mono ?_
            rintro e wJ ⟨v6, rfl, hoc, hbj⟩
            have HRJ := Lib.hid (HRX.out.later hbj)
            have HBJ := Lib.hid (HBX.out.trans (hbj.mono HBX.out.size))
            have HYT := Lib.hid (HYX.out.below (Nat.le_refl _) hbj)
            have HWJ : Hid (wr.heap.size ≤ wJ.heap.size) := Lib.hid hbj.size
            rcases hoc.form with ⟨-, h0⟩ | ⟨gc, cc, rfl, hg1, hg2, -⟩
            · exact absurd (by rw [h0]; rfl) HN0'.out
            have HGC : Hid (gc < wJ.heap.size) := Lib.hid hg2
            have HGNE : Hid (gc ≠ b7) := Lib.hid (by have h1 := HRX.out.lt; omega)
            obtain ⟨N, hN⟩ : ∃ z, CLs.length = z := ⟨_, rfl⟩
            have HNN := Lib.hid hN
            rw [hN] at HN0' HN52 hoc ⊢
            have hN0 : 0 < N := by have := HN0'.out; omega
            have hN52 := HN52.out
            have hnb : ((N : Int) == 0) = false := by rw [beq_eq_false_iff_ne]; omega
            obtain ⟨at0, hat⟩ : ∃ z, n % N = z := ⟨_, rfl⟩
            have hatN : at0 < N := by rw [← hat]; exact Nat.mod_lt _ hN0
            have hatl : (at0 : Int) < (N : Int) := by omega
            have HRM : Hid ((n : Int).tmod (N : Int) = (at0 : Int) ∧ (n : Int) % (N : Int) = (at0 : Int)) := Lib.hid ⟨by rw [Int.tmod_eq_emod_of_nonneg (by omega), ← hat]; rfl, by rw [← hat]; rfl⟩
            obtain ⟨c, wv, hcx⟩ : ∃ c wv : Nat, CLs[at0]? = some (c, wv) := ⟨_, _, List.getElem?_eq_getElem (by rw [HNN.out]; exact hatN)⟩
            have HLG : Hid (t.legal c = true) := Lib.hid (HMEM.out _ (List.mem_of_getElem? hcx))
            have HCK : Hid (wJ.cell? ⟨gc, at0 * 2, none⟩ = some (.int .u8 (c : Int))) := Lib.hid (hoc.cell at0 0 (by decide) hcx)
            have HPL := Lib.hid (fun W hz => dm_Play_ok t.h n5 t.ld t.cs ua uc c HPOS.out.ok.w64 (by omega) HLD.out W hz HRT.out HLG.out)
            have hte2 : Tb.mk t.h t.ld t.cs = t := rfl
            rw [hte2, HPQE.out] at HPL
            obtain ⟨q2, hp2, hq2', -, hk2⟩ := HPOS.out.put n5 (cards_pk HPOS.out.ok.pk HLG.out)
            have HNX := Lib.hid (And.intro hp2 (And.intro (Nat.le_trans hq2' hq2) (hk2 (8 - (i + 1)) (by omega))))
            have HOKU : Hid (TbOk (t.put n5 c).1) := Lib.hid hp2.ok
            obtain ⟨u, hu⟩ : ∃ u, (t.put n5 c).1 = u := ⟨_, rfl⟩
            obtain ⟨wk, hwk⟩ : ∃ x, (t.put n5 c).2 = x := ⟨_, rfl⟩
            rw [hu, hwk] at HPL
            rw [hu] at HNX HOKU
            unfold PlayOk at HPL
            clear hbj hoc hg1 hg2 hN hat hcx hp2 hq2' hk2 hu hwk hte hte2 HRX HBX HYX HOX HTX HCH
            go_upto_region 26 with fail
            clear hnb
            refine wp_region_reliesT (ChF [.agg PQ, .slice (some ⟨gc, 0, none⟩) N cc, .int .i64 (n : Int), .slice (some ⟨gc, 0, none⟩) N cc, .int .i64 (N : Int), .int .i64 (at0 : Int), .pointer (some ⟨gc, at0 * 2, none⟩), .pointer (some ⟨gc, at0 * 2, none⟩), .int .u8 (c : Int), undef, undef, undef, .int .i64 (wk : Int), .int .i64 0, undef] [9, 10, 11, 14] [] (KmS wJ b7 PQ u n5 wk)) (fun _ => true) (by kernel_rfl) (by kernel_rfl) (by kernel_rfl) (by kernel_rfl) (ChF.start ⟨(Below.refl _ _).drew, HRJ.out, trivial⟩) ?obls ?fini
            case obls =>
              refine ⟨⟨?_, ?_⟩, ⟨?_, ?_⟩, ⟨?_, ?_⟩, ⟨?_, ?_⟩, ⟨?_, ?_⟩, ⟨?_, ?_⟩, ⟨?_, ?_⟩, ⟨?_, ?_⟩, ⟨?_, ?_⟩, ⟨?_, ?_⟩, ⟨?_, ?_⟩, ⟨?_, ?_⟩, ⟨?_, ?_⟩, ⟨?_, ?_⟩, ⟨?_, ?_⟩, trivial⟩
              · rfl
              · rintro ρ f W ⟨vs, us, hX⟩ hfi hw hcl hf
                have f7 : ρ (.tmp 7) = .pointer (some ⟨b7, 0, none⟩) := hf.1 7 (by simp [Op.operands])
                have hr1 : Row W b7 27 PQ := hX.st.early (hX.le1 3 14 rfl (by
                  rcases h : f 14 with _ | v
                  · rfl
                  · have := hcl 14 (by rw [h]; rfl) 0 (by decide)
                    rw [hfi] at this; cases this))
                exact ok_value (exec_load_row 27 (.tmp 7) rfl b7 f7 hr1 Tryd.underlying27 rfl (by rw [HPQZ.out]; exact size_pos)) (hX.pure 0 _ (by decide) (by decide) rfl hX.st)
              · rfl
              · rintro ρ f W ⟨vs, us, hX⟩ hfi hw hcl hf
                have f9 : ρ (.tmp 9) = .slice (some ⟨gc, 0, none⟩) N cc := hf.1 9 (by simp [Op.operands])
                exact ok_value (v := .slice (some ⟨gc, 0, none⟩) N cc) (w' := W) (by simp [execOp, f9]) (hX.pure 1 _ (by decide) (by decide) rfl hX.st)
              · rfl
              · rintro ρ f W ⟨vs, us, hX⟩ hfi hw hcl hf
                have f4 : ρ (.tmp 4) = .int .i64 (n : Int) := hf.1 4 (by simp [Op.operands])
                exact ok_value (v := .int .i64 (n : Int)) (w' := W) (by simp [execOp, f4]) (hX.pure 2 _ (by decide) (by decide) rfl hX.st)
              · rfl
              · rintro ρ f W ⟨vs, us, hX⟩ hfi hw hcl hf
                have f9 : ρ (.tmp 9) = .slice (some ⟨gc, 0, none⟩) N cc := hf.1 9 (by simp [Op.operands])
                exact ok_value (v := .slice (some ⟨gc, 0, none⟩) N cc) (w' := W) (by simp [execOp, f9]) (hX.pure 3 _ (by decide) (by decide) rfl hX.st)
              · rfl
              · rintro ρ f W ⟨vs, us, hX⟩ hfi hw hcl hf
                have f93 : ρ (.tmp 93) = .slice (some ⟨gc, 0, none⟩) N cc := hX.val 3 _ _ (by decide) (by decide) (hf.1 93 (by simp [Op.operands, Call.operands])) rfl
                exact ok_value (v := .int .i64 (N : Int)) (w' := W) (by simp [f93, go_sem]) (hX.pure 4 _ (by decide) (by decide) rfl hX.st)
              · rfl
              · rintro ρ f W ⟨vs, us, hX⟩ hfi hw hcl hf
                have f92 : ρ (.tmp 92) = .int .i64 (n : Int) := hX.val 2 _ _ (by decide) (by decide) (hf.1 92 (by simp [Op.operands])) rfl
                have f94 : ρ (.tmp 94) = .int .i64 (N : Int) := hX.val 4 _ _ (by decide) (by decide) (hf.1 94 (by simp [Op.operands])) rfl
                have hn0 : ¬ N = 0 := by have := HN0'.out; omega
                exact ok_value (v := .int .i64 (at0 : Int)) (w' := W) (by simp [execOp, f92, f94, go_sem, hn0, HRM.out.1]) (hX.pure 5 _ (by decide) (by decide) rfl hX.st)
              · rfl
              · rintro ρ f W ⟨vs, us, hX⟩ hfi hw hcl hf
                have f91 : ρ (.tmp 91) = .slice (some ⟨gc, 0, none⟩) N cc := hX.val 1 _ _ (by decide) (by decide) (hf.1 91 (by simp [Op.operands])) rfl
                have f95 : ρ (.tmp 95) = .int .i64 (at0 : Int) := hX.val 5 _ _ (by decide) (by decide) (hf.1 95 (by simp [Op.operands])) rfl
                exact ok_value (v := .pointer (some ⟨gc, at0 * 2, none⟩)) (w' := W) (by simp [execOp, f91, f95, go_sem, hatl]) (hX.pure 6 _ (by decide) (by decide) rfl hX.st)
              · rfl
              · rintro ρ f W ⟨vs, us, hX⟩ hfi hw hcl hf
                have f96 : ρ (.tmp 96) = .pointer (some ⟨gc, at0 * 2, none⟩) := hX.val 6 _ _ (by decide) (by decide) (hf.1 96 (by simp [Op.operands])) rfl
                exact ok_value (v := .pointer (some ⟨gc, at0 * 2, none⟩)) (w' := W) (by simp [execOp, f96, go_sem]) (hX.pure 7 _ (by decide) (by decide) rfl hX.st)
              · rfl
              · rintro ρ f W ⟨vs, us, hX⟩ hfi hw hcl hf
                have f97 : ρ (.tmp 97) = .pointer (some ⟨gc, at0 * 2, none⟩) := hX.val 7 _ _ (by decide) (by decide) (hf.1 97 (by simp [Op.operands])) rfl
                have ck : W.cell? ⟨gc, at0 * 2, none⟩ = some (.int .u8 (c : Int)) := (KmS.bel hX.st HGC.out HGNE.out).trans HCK.out
                exact ok_value (v := .int .u8 (c : Int)) (w' := W) (by simp [execOp, f97, go_sem, ck]) (hX.pure 8 _ (by decide) (by decide) rfl hX.st)
              · rfl
              · rintro ρ f W ⟨vs, us, hX⟩ hfi hw hcl hf
                have f90 : ρ (.tmp 90) = .agg PQ := hX.val 0 _ _ (by decide) (by decide) (hf.1 90 (by simp [Op.operands, Call.operands])) rfl
                have f98 : ρ (.tmp 98) = .int .u8 (c : Int) := hX.val 8 _ _ (by decide) (by decide) (hf.1 98 (by simp [Op.operands, Call.operands])) rfl
                have hl := hX.le1 0 9 rfl hfi
                obtain rfl := list0 hl
                obtain ⟨hbe, hrow, -⟩ := hX.st
                refine ok_call (f := 13) (args := #[.agg PQ, .int .u8 (c : Int)]) ?_ ?_
                · simp [execOp, f90, f98, hf.2.2.2, go_sem]
                refine (HPL.out W (HYT.out.below (Nat.le_refl _) hbe)).mono ?_
                rintro e w9 ⟨v, rfl, hov, hb9⟩
                exact ⟨_, rfl, hX.step1 9 _ rfl (by decide) (by decide) ⟨hbe.trans (hb9.mono hbe.size), hrow.later hb9, v, rfl, hov.mono hbe.size⟩⟩
              · rfl
              · rintro ρ f W ⟨vs, us, hX⟩ hfi hw hcl hf
                have g99 := hX.get1 0 9 rfl (hf.1 99 (by simp [Op.operands]))
                have hl := hX.le1 1 10 rfl hfi
                obtain ⟨p, rfl⟩ : ∃ p, vs = [p] := ⟨_, list1 hl g99⟩
                obtain ⟨hbe, hrow, v, hv, hov⟩ := hX.st
                have f99 : ρ (.tmp 99) = p := (Option.some.inj (show some p = some (ρ (.tmp 99)) from g99)).symm
                exact ok_value (v := p) (w' := W) (by simp [execOp, f99]) (hX.step1 10 _ rfl (by decide) (by decide) ⟨hbe, hrow, v, hv, hov⟩)
              · rfl
              · rintro ρ f W ⟨vs, us, hX⟩ hfi hw hcl hf
                have g89 := hX.get1 1 10 rfl (hf.1 89 (by simp [Op.operands]))
                have hl := hX.le1 2 11 rfl hfi
                obtain ⟨p0, rfl⟩ := list2 hl g89
                obtain ⟨hbe, hrow, v, hv, hov⟩ := hX.st
                exact ok_value (v := .agg (posA u.h n5 u.ld v)) (w' := W) (by simp [execOp, hv, go_sem]) (hX.step1 11 _ rfl (by decide) (by decide) ⟨hbe, hrow, v, hv, rfl, hov⟩)
              · rfl
              · rintro ρ f W ⟨vs, us, hX⟩ hfi hw hcl hf
                have g89 := hX.get1 1 10 rfl (hf.1 89 (by simp [Op.operands]))
                obtain ⟨v, hv⟩ := KmS.tup hX.st g89
                exact ok_value (v := .int .i64 (wk : Int)) (w' := W) (by simp [execOp, hv, go_sem]) (hX.pure 12 _ (by decide) (by decide) rfl hX.st)
              · rfl
              · rintro ρ f W ⟨vs, us, hX⟩ hfi hw hcl hf
                have g89 := hX.get1 1 10 rfl (hf.1 89 (by simp [Op.operands]))
                obtain ⟨v, hv⟩ := KmS.tup hX.st g89
                exact ok_value (v := .int .i64 0) (w' := W) (by simp [execOp, hv, go_sem]) (hX.pure 13 _ (by decide) (by decide) rfl hX.st)
              · rfl
              · rintro ρ f W ⟨vs, us, hX⟩ hfi hw hcl hf
                have f7 : ρ (.tmp 7) = .pointer (some ⟨b7, 0, none⟩) := hf.1 7 (by simp [Op.operands])
                have g100 := hX.get1 2 11 rfl (hf.1 100 (by simp [Op.operands]))
                have hl := hX.le1 3 14 rfl hfi
                obtain ⟨p0, p1, rfl⟩ := list3 hl g100
                obtain ⟨hbe, hrow, v, hv, hx, hov⟩ := hX.st
                obtain ⟨xa, xc, rfl, -⟩ := OwnU.playedX hov HOKU.out
                have hz1 := posA_one u.h n5 u.ld xa u.cs.length xc
                refine ok_skip (exec_store_row 27 (.tmp 7) (.tmp 100) rfl b7 (posA u.h n5 u.ld (.slice xa u.cs.length xc)) f7 hx hrow (by rw [hz1.1]; exact size_pos) (by rw [hz1.1, HPQZ.out]) hz1.2) ?_
                exact hX.step1 14 _ rfl (by decide) (by decide) ⟨_, hv, Owns.kept hov (grownBy_rowY W b7 _) (.inl (own_apart hov hrow (by decide))), setRow_heap _ _ _ _ _ _ hrow, (But.of_below hbe).trans (but_setRowS _ _ _ _)⟩
            case fini =>
            rintro us w22 hlen ⟨vs, us', hX⟩
            have hl0 : us.length = 15 := hlen
            obtain ⟨y0, y1, y2, y3, y4, y5, y6, y7, y8, y9, y10, y11, y12, y13, y14, rfl⟩ := list15 hl0
            obtain ⟨p0, p1, p2, rfl⟩ := list4 hX.l1 (hX.get1 3 14 rfl rfl)
            obtain ⟨v, -, hov, hrow, hbut⟩ := hX.st
            obtain ⟨xa, xc, rfl, -⟩ := OwnU.playedX hov HOKU.out
            have HOF := Lib.hid (hov.mono (base' := w6.heap.size) HBJ.out.size)
            have HRF := Lib.hid hrow
            have HBF : Hid (Below w6.heap.size w6 w22) := Lib.hid (But.below HBJ.out hbut HBJ.out.size (by rw [← HB7E.out]; exact Nat.le_refl _))
            clear hX hlen hov hrow hbut hl0 HRJ HBJ HYT HPL
            simp only [putAll, List.zip_cons_cons, List.zip_nil_right, List.foldl_cons, List.foldl_nil]
            simp only [Act.put, List.setIfInBounds_toArray, List.set_cons_succ, List.set_cons_zero]
            go_wp2_with fail
            go_roundg (n4 - (i + 1))
            case measure => omega
            case rel => exact ⟨i + 1, u, q2, xa, xc, rfl, by omega, by go_num, HRF.out, HOF.out, HNX.out.1, HNX.out.2.2, HNX.out.2.1, HBF.out⟩
          · obtain rfl : i = n4 := by omega
            have hdi4 : decide (i < i) = false := by simp
            have HF1 := Lib.hid (fun (sd : Nat) (hsd : sd < 256) (tk : Int) (lx : List Nat) (xa : Option Addr) (xc : Nat) (h60 : lx.length ≤ 60) (W : World) (hz : Byt W ua t.cs.length t.cs) (hl : Byt W xa lx.length lx) (hT : Tab W) => law16_tells t.h n5 t.ld t.cs ua uc sd tk lx xa xc W HPOS.out.ok.w64 (by omega) HLD.out hsd hz hl hT (by omega) h60 (fun _ => by rw [HTN.out]; omega))
            have HF2 := Lib.hid (HF1.out a2 (by omega) 1 o la lc HLL.out)
            rw [HNL.out] at HF2
            obtain ⟨d2, hd2⟩ : ∃ z, 1 - a2 = z := ⟨_, rfl⟩
            have HF3 := Lib.hid (HF1.out d2 (by omega) 0 CL (some ⟨lb, 0, none⟩) 3 (by decide))
            rw [show CL.length = 3 from rfl] at HF3
            obtain ⟨PQ, hPQ⟩ : ∃ A, posA t.h n5 t.ld (.slice ua t.cs.length uc) = A := ⟨_, rfl⟩
            rw [hPQ] at HF2 HF3 HRX HPQZ0
            have HPQZ := Lib.hid HPQZ0.out
            have HFA := Lib.hid (HF2.out wr HYX.out (HLB6.out _ HBX.out) HTX.out)
            have u1 := HTM.out.1.1
            have u1' := HTM.out.1.2
            have u2 : IntKind.u8.wrap (a2 : Int) = (a2 : Int) := by rw [IntKind.wrap_u8]; omega
            have u3 : (1 : Int) - (a2 : Int) = (d2 : Int) := by omega
            have u4 : IntKind.u8.wrap (d2 : Int) = (d2 : Int) := by rw [IntKind.wrap_u8]; omega
            have hd2l : d2 ≤ 1 := by omega
            clear hPQ hd2 HF1 HPQZ0 hte
            go_wp2_with (refine wpList_load_row rfl 27 (.tmp 7) rfl b7 rfl 27 PQ (0, 0) _ HRX.out Tryd.underlying27 rfl (by rw [HPQZ.out]; exact size_pos) ?_)
            refine HFA.out.mono ?_
            rintro e wf ⟨rfl, hbf⟩
            have HRF := Lib.hid (HRX.out.later hbf)
            have HBF := Lib.hid (HBX.out.trans (hbf.mono HBX.out.size))
            have HFB := Lib.hid (HF3.out wf (HYX.out.below (Nat.le_refl _) hbf) (HYA.out.below (Nat.le_refl _) (HWR.out.trans (HBF.out.mono HWR.out.size))) (HT.out.below HT.out.pos (HBW.out _ HBF.out)))
            clear hbf HFA HRX HBX HYX
            go_wp2_with (refine load_row_g rfl 27 (.tmp 7) rfl b7 rfl 27 PQ (0, 0) _ HRF.out Tryd.underlying27 rfl (by rw [HPQZ.out]; exact size_pos) ?_)
            refine HFB.out.mono ?_
            rintro e wg ⟨rfl, hbg⟩
            have HBG := Lib.hid (HWR.out.trans ((HBF.out.trans (hbg.mono HBF.out.size)).mono HWR.out.size))
            clear hbg HFB HBF HRF u1 u1' u2 u3 u4
            go_wp2_with fail
            go_roundg (24 - (n + 1))
            case measure => omega
            case rel => exact ⟨n + 1, rfl, by omega, by go_num, HBG.out⟩
    · obtain rfl : n = 24 := by omega
      have hdk : decide (24 < 24) = false := by simp
      have hmk : ∀ w1 : World, (Instr.makeSlice 25 (.int .i64 25) (.int .i64 25)).run Tryd.prog w1 = .ok (.slice (some ⟨w1.heap.size, 0, none⟩) 25 25) (w1.alloc (.cells (Array.replicate 25 (.int .u8 0)) 5)) := make_bytesS 25 (by decide)
      have hlt24 : True := trivial
      clear hlt
      go_upto_region 32 with fail
      generalize wr = w4 at *
      have HBQ := Lib.hid (HBA.out.trans (HN0.out.mono HBA.out.size))
      have HRQ := Lib.hid (HRA.out.later HN0.out)
      have HYQ := Lib.hid (HYA.out.below (Nat.le_refl _) HN0.out)
      have hs1 : (w4.alloc (.cells #[.int .u8 52] 5)).heap.size = w4.heap.size + 1 := by simp
      have hs2 : ((w4.alloc (.cells #[.int .u8 52] 5)).alloc (.cells #[.int .u8 39, .int .u8 39] 5)).heap.size = w4.heap.size + 1 + 1 := by simp
      have hs3 : (((w4.alloc (.cells #[.int .u8 52] 5)).alloc (.cells #[.int .u8 39, .int .u8 39] 5)).alloc (.cells #[.int .u8 255, .int .u8 1] 5)).heap.size = w4.heap.size + 1 + 1 + 1 := by simp
      have hs4 : ((((w4.alloc (.cells #[.int .u8 52] 5)).alloc (.cells #[.int .u8 39, .int .u8 39] 5)).alloc (.cells #[.int .u8 255, .int .u8 1] 5)).alloc (.cells (Array.replicate 25 (.int .u8 0)) 5)).heap.size = w4.heap.size + 1 + 1 + 1 + 1 := by simp
      have hr2 := Row.new (w4.alloc (.cells #[.int .u8 52] 5)) 5 #[.int .u8 39, .int .u8 39]
      have hr3 := Row.new ((w4.alloc (.cells #[.int .u8 52] 5)).alloc (.cells #[.int .u8 39, .int .u8 39] 5)) 5 #[.int .u8 255, .int .u8 1]
      have hr4 := Row.new (((w4.alloc (.cells #[.int .u8 52] 5)).alloc (.cells #[.int .u8 39, .int .u8 39] 5)).alloc (.cells #[.int .u8 255, .int .u8 1] 5)) 5 (Array.replicate 25 (.int .u8 0))
      have hr5 := Row.new ((((w4.alloc (.cells #[.int .u8 52] 5)).alloc (.cells #[.int .u8 39, .int .u8 39] 5)).alloc (.cells #[.int .u8 255, .int .u8 1] 5)).alloc (.cells (Array.replicate 25 (.int .u8 0)) 5)) 25 (badS w4.heap.size)
      rw [hs1] at hr2
      rw [hs2] at hr3
      rw [hs3] at hr4
      rw [hs4] at hr5
      have HB5 : Hid (Below w4.heap.size w4 (((((w4.alloc (.cells #[.int .u8 52] 5)).alloc (.cells #[.int .u8 39, .int .u8 39] 5)).alloc (.cells #[.int .u8 255, .int .u8 1] 5)).alloc (.cells (Array.replicate 25 (.int .u8 0)) 5)).alloc (.cells (badS w4.heap.size) 25))) := Lib.hid (((((Below.refl w4.heap.size w4).alloc (Nat.le_refl _) _).alloc (by simp) _).alloc (by simp; omega) _).alloc (by simp; omega) _ |>.alloc (by simp; omega) _)
      have HX1 := Lib.hid (((((Row.new w4 5 #[.int .u8 52]).alloc (.cells #[.int .u8 39, .int .u8 39] 5)).alloc (.cells #[.int .u8 255, .int .u8 1] 5)).alloc (.cells (Array.replicate 25 (.int .u8 0)) 5)).alloc (.cells (badS w4.heap.size) 25))
      have HX2 := Lib.hid (((hr2.alloc (.cells #[.int .u8 255, .int .u8 1] 5)).alloc (.cells (Array.replicate 25 (.int .u8 0)) 5)).alloc (.cells (badS w4.heap.size) 25))
      have HX3 := Lib.hid ((hr3.alloc (.cells (Array.replicate 25 (.int .u8 0)) 5)).alloc (.cells (badS w4.heap.size) 25))
      have HX4 := Lib.hid (hr4.alloc (.cells (badS w4.heap.size) 25))
      have HX5 := Lib.hid hr5
      have HR5 := Lib.hid (HRQ.out.later HB5.out)
      have HY5 := Lib.hid (HYQ.out.below (Nat.le_refl _) HB5.out)
      have HB5W := Lib.hid (HBQ.out.trans (HB5.out.mono HBQ.out.size))
      clear hs1 hs2 hs3 hs4 hr2 hr3 hr4 hr5 HB5 HRQ HYQ HBQ hmk
      show Code.wp _ _ _ _ (((((w4.alloc (.cells #[.int .u8 52] 5)).alloc (.cells #[.int .u8 39, .int .u8 39] 5)).alloc (.cells #[.int .u8 255, .int .u8 1] 5)).alloc (.cells (Array.replicate 25 (.int .u8 0)) 5)).alloc (.cells (badS w4.heap.size) 25))
      generalize ((((w4.alloc (.cells #[.int .u8 52] 5)).alloc (.cells #[.int .u8 39, .int .u8 39] 5)).alloc (.cells #[.int .u8 255, .int .u8 1] 5)).alloc (.cells (Array.replicate 25 (.int .u8 0)) 5)).alloc (.cells (badS w4.heap.size) 25) = w5 at *
      have HBC := Lib.hid (fun (k : Nat) (hk : k < 4) => bad_line HX1.out HX2.out HX3.out HX4.out hk)
      obtain ⟨CB, hCB⟩ : ∃ A, badS w4.heap.size = A := ⟨_, rfl⟩
      rw [hCB] at HBC HX5
      obtain ⟨x1, hx1⟩ : ∃ v, Value.slice (some ⟨w4.heap.size, 0, none⟩) 1 1 = v := ⟨_, rfl⟩
      obtain ⟨x2, hx2⟩ : ∃ v, Value.slice (some ⟨w4.heap.size + 1, 0, none⟩) 2 2 = v := ⟨_, rfl⟩
      obtain ⟨x3, hx3⟩ : ∃ v, Value.slice (some ⟨w4.heap.size + 1 + 1, 0, none⟩) 2 2 = v := ⟨_, rfl⟩
      obtain ⟨x4, hx4⟩ : ∃ v, Value.slice (some ⟨w4.heap.size + 1 + 1 + 1, 0, none⟩) 25 25 = v := ⟨_, rfl⟩
      obtain ⟨bc, hbc⟩ : ∃ b, w4.heap.size + 1 + 1 + 1 + 1 = b := ⟨_, rfl⟩
      rw [hx1, hx2, hx3, hx4, hbc]
      rw [hbc] at HX5
      clear hx1 hx2 hx3 hx4 HX1 HX2 HX3 HX4 hCB hbc HRA HYA HBA HN0 HALL
      have hPA' : posA CH 4 2 (.slice none ([] : List Nat).length 0) = PA := HPA.out
      have HPA' := Lib.hid hPA'
      clear hPA'
      try dsimp only [Act.put]
      go_loopg [128] 4 (fun g kv wr => ∃ (k : Nat), g = 4 - k ∧ k ≤ 4 ∧ kv = .int .i64 (k : Int) ∧ Below w5.heap.size w5 wr)
      case atStart => exact ⟨0, rfl, by omega, rfl, Below.refl _ _⟩
      case round =>
      obtain ⟨k, rfl, hk, rfl, hb⟩ := hrel
      have HA6 := Lib.hid hb
      clear hb
      have HB6 := Lib.hid (HB5W.out.trans (HA6.out.mono HB5W.out.size))
      have HR6 := Lib.hid (HR5.out.later HA6.out)
      by_cases hlt : k < 4
      · have hdk : decide (k < 4) = true := by simp; omega
        have hdK : decide ((k : Int) < 4) = true := by simp; omega
        have hkI : (k : Int) < 4 := by omega
        obtain ⟨la, ln, nl, lcap, hnl, h60, hby, g0⟩ := HBC.out k hlt
        have k0 : wr.cell? ⟨bc, k, none⟩ = some (.slice la nl lcap) := ((HX5.out.later HA6.out).cell _).trans g0
        have HCL := Lib.hid (HTL.out 4 2 (by decide) (by decide) 0 (by decide) 1 ln la lcap h60 wr (hby.below (Nat.le_refl _) HA6.out) (HT.out.below HT.out.pos HB6.out))
        rw [HPA'.out, hnl, show ((0 : Nat) : Int) = 0 from rfl] at HCL
        clear hnl h60 hby g0
        go_wp2_with (refine wpList_load_row rfl 27 (.tmp 1) rfl bp rfl 27 PA (0, 0) _ HR6.out Tryd.underlying27 rfl (by rw [HPZ.out.1]; exact size_pos) ?_)
        refine HCL.out.mono ?_
        rintro e w7 ⟨rfl, hb7⟩
        have HA7 := Lib.hid (HA6.out.trans (hb7.mono HA6.out.size))
        clear hb7 k0
        go_wp2_with fail
        go_roundg (4 - (k + 1))
        case measure => omega
        case rel => exact ⟨k + 1, rfl, by omega, by go_num, HA7.out⟩
      · obtain rfl : k = 4 := by omega
        have hdk : decide (4 < 4) = false := by simp
        have HY6 := Lib.hid (HY5.out.below (Nat.le_refl _) HA6.out)
        clear hlt HA6 HB5W HR5 HY5 HBC HX5
        go_upto_region 39 with fail
        generalize wr = w7 at *
        try dsimp only [Act.put]
        go_loopg [13, 137] 25 (fun g lv iv wi => ∃ (i : Nat) (o : List Nat), g = 25 - i ∧ i ≤ 25 ∧ iv = .int .i64 (i : Int) ∧ o.length = i ∧ (∀ y ∈ o, y < 52) ∧ OwnU wi w7.heap.size lv o ∧ Below w7.heap.size w7 wi)
        case atStart => exact ⟨0, [], rfl, by omega, rfl, rfl, (fun y hy => by cases hy), Owns.nil encU_len _ _, Below.refl _ _⟩
        case round =>
        obtain ⟨i, o, rfl, hi25, rfl, hol, ho52, hown, hbi⟩ := hrel
        have HOL := Lib.hid (And.intro hol ho52)
        have HOW := Lib.hid hown
        have HBI := Lib.hid hbi
        clear hol ho52 hown hbi
        by_cases hil : i < 25
        · have hdi : decide (i < 25) = true := by simp; omega
          obtain ⟨c, hc⟩ : ∃ z, 2 * i = z := ⟨_, rfl⟩
          have hc52 : c < 52 := by omega
          have e1 : 2 * (i : Int) = (c : Int) := by omega
          have e2 : IntKind.u8.wrap (c : Int) = (c : Int) := by rw [IntKind.wrap_u8]; omega
          clear hc
          go_upto_region 42 with (at_builtin; refine appU rfl (.tmp 140) (.tmp 144) rfl w7.heap.size _ o [c] rfl (HOW.out.alloc _) _ _ _ rfl (byt_new1 wr c (by omega)) (by have := HOL.out.1; omega) (by rw [World.size_alloc]; have := HBI.out.size; omega) ?_; intro v2 w10 hown10 hb10 hg10 hnb10)
          have HO10 := Lib.hid hown10
          have HB10 := Lib.hid (HBI.out.trans (((Below.refl w7.heap.size wr).alloc HBI.out.size (.cells #[.int .u8 (c : Int)] 5)).trans hb10))
          clear hown10 hb10 hg10 hnb10 e1 e2
          go_wp2_with fail
          go_roundg (25 - (i + 1))
          case measure => omega
          case rel => exact ⟨i + 1, o ++ [c], rfl, by omega, by go_num, by rw [List.length_append, HOL.out.1]; rfl, (fun y hy => by
            rcases List.mem_append.1 hy with h | h
            · exact HOL.out.2 y h
            · rcases List.mem_singleton.1 h with rfl; exact hc52), HO10.out, HB10.out⟩
        · obtain rfl : i = 25 := by omega
          have hdi : decide (25 < 25) = false := by simp
          have hol := HOL.out.1
          obtain ⟨la, lc, hle, hlcap, hn1, -, -, hlby⟩ := OwnU.byt HOW.out (by omega) (fun j => by
            rcases Nat.lt_or_ge j o.length with h | h
            · have := HOL.out.2 (o.getD j 0) (by rw [List.getD_eq_getElem?_getD, List.getElem?_eq_getElem h]; exact List.getElem_mem h)
              omega
            · rw [List.getD_eq_getElem?_getD, List.getElem?_eq_none h]; exact (by decide : (0 : Nat) < 256))
          subst hle
          have HBL := Lib.hid (HB6.out.trans (HBI.out.mono HB6.out.size))
          have HRL := Lib.hid (HR6.out.later HBI.out)
          have HYL := Lib.hid (HY6.out.below (Nat.le_refl _) HBI.out)
          have HTW : Hid (∀ W, Below wr.heap.size wr W → Tab W) := Lib.hid fun W hb => HT.out.below HT.out.pos (HBL.out.trans (hb.mono HBL.out.size))
          have hlb2 := hlby
          rw [hol] at hn1 hlb2 ⊢
          have hsl := upto_runX la 25 lc 24 o wr (by decide) hn1 hlcap hlb2
          have hsl1 : ∀ wx, (Instr.slice 25 (.slice la 25 lc) none (some (.int .i64 24)) none).run Tryd.prog wx = .ok (.slice la 24 lc) wx := hsl.1
          have ht24 : (o.take 24).length = 24 := by rw [List.length_take, hol]; rfl
          have K1 := Lib.hid (fun W (hb : Below wr.heap.size wr W) => HTL.out 4 2 (by decide) (by decide) 0 (by decide) 2 (o.take 24) la lc (by rw [ht24]; decide) W (by rw [ht24]; exact hsl.2.below (Nat.le_refl _) hb) (HTW.out W hb))
          have K2 := Lib.hid (fun W (hb : Below wr.heap.size wr W) => HTL.out 4 2 (by decide) (by decide) 0 (by decide) 2 o la lc (by rw [hol]; decide) W (hlby.below (Nat.le_refl _) hb) (HTW.out W hb))
          have K3 := Lib.hid (fun W (hb : Below wr.heap.size wr W) => HTL.out 4 2 (by decide) (by decide) 0 (by decide) 3 CL (some ⟨lb, 0, none⟩) 3 (by decide) W (HYL.out.below (Nat.le_refl _) hb) (HTW.out W hb))
          have K4 := Lib.hid (fun W (hb : Below wr.heap.size wr W) => HTL.out 4 2 (by decide) (by decide) 2 (by decide) 0 CL (some ⟨lb, 0, none⟩) 3 (by decide) W (HYL.out.below (Nat.le_refl _) hb) (HTW.out W hb))
          have K5 := Lib.hid (fun W (hb : Below wr.heap.size wr W) => cl_awake W (HTW.out W hb))
          rw [HPA'.out, show ((0 : Nat) : Int) = 0 from rfl] at K1 K2 K3
          rw [HPA'.out, show ((2 : Nat) : Int) = 2 from rfl] at K4
          rw [ht24] at K1
          rw [hol] at K2
          rw [show CL.length = 3 from rfl] at K3 K4
          clear hsl hlcap hn1 hlby hlb2 ht24 hol HOW HOL HTL HTW HYL HY6 HR6 HB6 HBI hil
          generalize wr = wL at *
          go_upto_region 43 with fail
          refine wp_region_quiet_below (by kernel_rfl) (by kernel_rfl) ?_
          repeat (first
            | go_big_quiet_step (fail)
            | quiet_step (with_reducible exact Calls.regrown_of (K1.out _ (below_regrown _ _ _)))
            | quiet_step (with_reducible exact Calls.regrown_of (K2.out _ (below_regrown _ _ _)))
            | quiet_step (with_reducible exact Calls.regrown_of (K3.out _ (below_regrown _ _ _)))
            | quiet_step (with_reducible exact Calls.regrown_of (K4.out _ (below_regrown _ _ _)))
            | quiet_step (with_reducible exact Calls.regrown_of (K5.out _ (below_regrown _ _ _)))
            | (refine quiet_rowC (by rfl) 27 (.tmp 1) rfl bp rfl (fun w' hw' => by obtain ⟨p, rfl⟩ := hw'; exact HRL.out.later (below_regrown _ _ _)) Tryd.underlying27 rfl (by rw [HPZ.out.1]; exact size_pos) ?_)
            | quiet_step (fail))
          refine wpQuiet_nil ?_
          rintro _ ⟨qq, rfl⟩
          have hbq := below_regrown wL qq.d qq.os
          have HBE := Lib.hid (HBL.out.trans (hbq.mono HBL.out.size))
          clear hbq K1 K2 K3 K4 K5
          generalize grow (redrawn wL qq.d) qq.os = wE at *
          go_wp2_with fail
          go_ret
          exact ⟨rfl, HBE.out⟩
end Go.Proofs.YtnbillhodbcfbaaDoor
