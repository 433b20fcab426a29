/- Contracts of finessekit.LentBytes and KeptBytes over this seat's program. -/
import Derived.Test.YthilcnhnfdddhaaDoorOwn
import Derived.Test.YthilcnhnfdddhaaDoorPlain
namespace Go.Proofs.YthilcnhnfdddhaaDoor
open Go.RowKit Go.Shelf Go.Sort

/-- finessekit.markByte of slice 1 -/
def markI (x : Int) : Int := IntKind.u64.wrap (x * 11400714819323198485) / 72057594037927936 % 256
def markB (i : Nat) : Nat := (markI (8000024 + (i : Int))).toNat
def marks : List Nat := (List.range 12).map markB
theorem markB_cast (i : Nat) : ((markB i : Nat) : Int) = markI (8000024 + (i : Int)) := by
  unfold markB markI; omega
theorem markB_lt (i : Nat) : markB i < 256 := by unfold markB markI; omega
theorem kit_mark (i : Nat) (hi : i < 12) (w : World) :
    Calls Tryd.prog 60 #[.int .i64 1, .int .i64 (i : Int)] w fun e w' => e = .returned (.int .i64 (8000024 + (i : Int))) ∧ w = w' := by
  go_enter Tryd.func60, Tryd.ntmps60
  go_wp2
  go_ret
  exact ⟨rfl, rfl⟩
theorem kit_markByte (i : Nat) (hi : i < 12) (w : World) :
    Calls Tryd.prog 51 #[.int .i64 1, .int .i64 (i : Int)] w fun e w' => e = .returned (.int .u8 (markB i : Int)) ∧ w = w' := by
  have hm := kit_mark i hi w
  have HE := Lib.hid (markB_cast i)
  have hx : 0 ≤ 8000024 + (i : Int) ∧ 8000024 + (i : Int) < 9000000 := by omega
  generalize 8000024 + (i : Int) = x at *
  have HM := Lib.hid hm
  clear hm
  go_enter Tryd.func51, Tryd.ntmps51
  go_wp2_with (go_at_call 60; refine HM.out.mono ?_; rintro e w' ⟨rfl, rfl⟩)
  go_ret
  exact ⟨by rw [HE.out]; rfl, rfl⟩
theorem marks_length : marks.length = 12 := by simp [marks]
theorem marks_at (k : Nat) (h : k < 12) : marks.getD k 0 = markB k := by
  unfold marks; rw [List.getD_eq_getElem?_getD, List.getElem?_map, List.getElem?_range h, Option.map_some, Option.getD_some]
theorem marks_take (k : Nat) (h : k < 12) : marks.take (k + 1) = marks.take k ++ [markB k] := by
  rw [take_snoc marks k (by rw [marks_length]; exact h), marks_at k h]
theorem byte_append {zs ys : List Nat} (hz : ∀ i, zs.getD i 0 < 256) (hy : ∀ i, ys.getD i 0 < 256) (i : Nat) : (zs ++ ys).getD i 0 < 256 := by
  rw [List.getD_eq_getElem?_getD, List.getElem?_append]
  split
  · have := hz i; rwa [List.getD_eq_getElem?_getD] at this
  · have := hy (i - zs.length); rwa [List.getD_eq_getElem?_getD] at this
theorem marks_byte (i : Nat) : marks.getD i 0 < 256 := by
  rcases Nat.lt_or_ge i 12 with h | h
  · rw [marks_at i h]; exact markB_lt i
  · rw [List.getD_eq_getElem?_getD, List.getElem?_eq_none (by rw [marks_length]; exact h)]; simp

theorem Byt.nil {w : World} {a : Option Addr} {len : Nat} {zs : List Nat} (h : Byt w a len zs) (ha : a = none) : len = 0 := by
  rcases h.cells with h | ⟨b, off, h, _⟩
  · exact h
  · rw [ha] at h; cases h
/-- A call hands back a slice of its own that reads as zs, and has the marks behind it. -/
def Lent (w : World) (len : Nat) (zs : List Nat) (e : Ending) (w' : World) : Prop :=
  e = .returned (.slice (some ⟨w.heap.size, 0, none⟩) len (len + 12)) ∧ Byt w' (some ⟨w.heap.size, 0, none⟩) (len + 12) (zs ++ marks) ∧ Below w.heap.size w w'

theorem kit_lent (a : Option Addr) (len cap : Nat) (zs : List Nat) (w : World) (hz : Byt w a len zs) (hnil : a = none → cap = 0) (h60 : len ≤ 60) :
    Calls Tryd.prog 30 #[.slice a len cap] w (Lent w len zs) := by
  obtain ⟨i0, hi, hz0, hz1, hz2⟩ := info_parts info_u8
  have HL := Lib.hid hz.length
  have HN := Lib.hid hnil
  clear hnil
  go_enter Tryd.func30, Tryd.ntmps30
  go_wp2_with (first
    | (at_make; refine wpList_make_own _ rfl _ _ 23 rfl w.heap.size 5 i0 (.int .u8 0) 1 Tryd.underlying23 hi hz0 hz1 _ _ _ (len + 12) rfl rfl (by omega) (by rw [hz2]; omega) (by unfold maxLen; omega) (Nat.le_refl _) ?_; intro w1 hown1 hg1; have hB1 : Below w.heap.size w w1 := (Below.refl _ _).grown hg1 (Nat.le_refl _) (fun _ h => by cases h))
    | (at_builtin; refine wpList_append_fits_any _ rfl (.tmp 9) (.tmp 10) 23 rfl w.heap.size 5 i0 1 Tryd.underlying23 hi hz1 w.heap.size 0 (len + 12) [] rfl hown1 _ _ _ (u8s zs) rfl (by rw [u8s_length, HL.out]; omega) (fun h => ⟨hz.nil h, HN.out h⟩) (byt_cells (hz.below (Nat.le_refl _) hB1)) (u8s_one zs) (by omega) ?_; intro w2 hown2 hg2; simp only [List.nil_append, Nat.zero_add] at hown2; have hB2 : Below w.heap.size w w2 := hB1.grown hg2 hB1.size (fun _ h => by cases h; exact Nat.le_refl _)))
  go_loopw [3, 4] (fun v i wr => ∃ k : Nat, k ≤ 12 ∧ i = .int .i64 (k : Int) ∧ v = .slice (some ⟨w.heap.size, 0, none⟩) (len + k) (len + 12) ∧ wr.ownsRow w.heap.size 5 1 (.slice (some ⟨w.heap.size, 0, none⟩) (len + k) (len + 12)) (len + k) (u8s (zs ++ marks.take k)) ∧ Below w.heap.size w wr) (fun _ i _ => 12 - (intOf i).toNat)
  case atStart => exact ⟨0, by omega, rfl, rfl, by simpa using hown2, hB2⟩
  case round =>
    obtain ⟨k, hk, rfl, rfl, hown, hB⟩ := hrel
    by_cases hlt : k < 12
    · have HT := Lib.hid (marks_take k hlt)
      have hsz : w.heap.size ≤ wr.heap.size := hB.size
      go_wp2_with (first
        | (go_at_call 51; refine (kit_markByte k hlt _).mono ?_; rintro e w' ⟨rfl, rfl⟩)
        | (at_builtin; refine wpList_append_fits _ rfl (.tmp 16) (.tmp 19) 23 rfl w.heap.size 5 i0 1 Tryd.underlying23 hi hz1 w.heap.size (len + k) (len + 12) (u8s (zs ++ marks.take k)) rfl (hown.alloc _) ⟨wr.heap.size, 0, none⟩ 1 1 (u8s [markB k]) rfl rfl (byt_cells (byt_one wr (markB k) (markB_lt k)) _ rfl) (u8s_one _) (by omega) ?_; intro w4 hown4 hg4))
      go_roundw
      case rel =>
        refine ⟨k + 1, by omega, by go_num, rfl, ?_, (hB.alloc hsz _).grown hg4 (by simp; omega) (fun _ h => by cases h; exact Nat.le_refl _)⟩
        rw [HT.out, ← List.append_assoc, u8s_append]; exact hown4
      case measure => simp [intOf]; omega
    · have hk' : k = 12 := by omega
      subst hk'
      go_wp2
      go_ret
      refine ⟨rfl, ?_, hB⟩
      have e : marks.take 12 = marks := List.take_of_length_le (by rw [marks_length]; omega)
      rw [e] at hown
      have el : (zs ++ marks).length = len + 12 := by rw [List.length_append, HL.out, marks_length]
      have hown' : OwnB wr w.heap.size (.slice (some ⟨w.heap.size, 0, none⟩) (len + 12) (len + 12)) (zs ++ marks) := by unfold OwnB; rw [el]; exact hown
      obtain ⟨a', cap', h1, _, h2⟩ := hown'.byt (by omega) (byte_append hz.byte marks_byte)
      rw [el] at h1 h2
      injection h1 with h3 h4 h5
      rw [← h3] at h2
      exact h2

theorem getD_left {zs ys : List Nat} {i : Nat} (h : i < zs.length) : (zs ++ ys).getD i 0 = zs.getD i 0 := by
  rw [List.getD_eq_getElem?_getD, List.getD_eq_getElem?_getD, List.getElem?_append_left h]
theorem getD_right {zs ys : List Nat} {i : Nat} (h : zs.length ≤ i) : (zs ++ ys).getD i 0 = ys.getD (i - zs.length) 0 := by
  rw [List.getD_eq_getElem?_getD, List.getD_eq_getElem?_getD, List.getElem?_append_right h]

theorem kit_kept (g : Nat) (a : Option Addr) (len cap : Nat) (zs : List Nat) (w : World) (hz : Byt w a len zs) (h60 : len ≤ 60) (hg : Byt w (some ⟨g, 0, none⟩) (len + 12) (zs ++ marks)) :
    Calls Tryd.prog 34 #[.slice (some ⟨g, 0, none⟩) len (len + 12), .slice a len cap] w fun e w' => e = .returned (.bool true) ∧ Below w.heap.size w w' := by
  have HL := Lib.hid hz.length
  obtain ⟨g', off', hge, hgb, hgc⟩ := hg.at (by omega)
  injection hge with hge
  injection hge with h1 h2
  subst h1; subst h2
  simp only [Nat.zero_add] at hgc
  have HGC := Lib.hid hgc
  clear hgc
  go_enter Tryd.func34, Tryd.ntmps34
  go_wp2_with fail
  go_loopw [6] (fun i wr => ∃ k : Nat, k ≤ len + 12 ∧ i = .int .i64 (k : Int) ∧ Below w.heap.size w wr) (fun i _ => len + 12 - (intOf i).toNat)
  case atStart => exact ⟨0, by omega, rfl, Below.refl _ _⟩
  case round =>
    obtain ⟨k, hk, rfl, hB⟩ := hrel
    by_cases hlt : k < len + 12
    · have hcg : wr.cell? ⟨g, k, none⟩ = some (.int .u8 (((zs ++ marks).getD k 0 : Nat) : Int)) := (hB.cell (p := ⟨g, k, none⟩) hgb).trans (HGC.out k hlt)
      by_cases hkl : k < len
      · obtain ⟨b, off, rfl, hb, hcs⟩ := hz.at (by omega)
        have hca : wr.cell? ⟨b, off + k, none⟩ = some (.int .u8 ((zs.getD k 0 : Nat) : Int)) := (hB.cell (p := ⟨b, off + k, none⟩) hb).trans (hcs k hkl)
        rw [getD_left (by rw [HL.out]; exact hkl)] at hcg
        clear hcs
        generalize zs.getD k 0 = c at *
        have hr0 := fun dd os => cell_regrown hcg dd os
        have hr1 := fun dd os => cell_regrown hca dd os
        have hle : decide (len ≤ k) = false := by simp; omega
        go_wp2
        refine wp_region_quiet_below (by kernel_rfl) (by kernel_rfl) ?_
        repeat (go_big_quiet_step (fail))
        refine wpQuiet_nil ?_
        rintro _ ⟨p, rfl⟩
        have hb3 := below_regrown wr p.d p.os
        generalize grow (redrawn wr p.d) p.os = w1 at *
        clear hr0 hr1
        go_wp2
        go_roundw
        case rel => exact ⟨k + 1, by omega, by go_num, hB.trans (hb3.mono hB.size)⟩
        case measure => simp [intOf]; omega
      · obtain ⟨j, hje⟩ : ∃ j, k = len + j := ⟨k - len, by omega⟩
        have hj : j < 12 := by omega
        rw [getD_right (by rw [HL.out]; omega), HL.out, show k - len = j by omega, marks_at j hj] at hcg
        have hr0 := fun dd os => cell_regrown hcg dd os
        have hle : decide (len ≤ k) = true := by simp; omega
        have hle2 : decide (k < len) = false := by simp; omega
        have hw1 : IntKind.i64.wrap ((k : Int) - (len : Int)) = (j : Int) := by rw [IntWalk.i64_in _ (by omega)]; omega
        have HJE := Lib.hid hje
        clear hje
        go_wp2
        refine wp_region_quiet_below (by kernel_rfl) (by kernel_rfl) ?_
        repeat (go_big_quiet_step ((exact Calls.regrown_of ((kit_markByte j hj _).mono fun _ _ ⟨he, hw⟩ => ⟨he, hw ▸ Below.refl _ _⟩))))
        refine wpQuiet_nil ?_
        rintro _ ⟨p, rfl⟩
        have hb3 := below_regrown wr p.d p.os
        generalize grow (redrawn wr p.d) p.os = w1 at *
        clear hr0 hw1
        go_wp2
        go_roundw
        case rel => exact ⟨k + 1, by omega, by go_num, hB.trans (hb3.mono hB.size)⟩
        case measure => simp [intOf]; omega
    · have hk' : k = len + 12 := by omega
      subst hk'
      go_wp2
      go_ret
      exact ⟨rfl, hB⟩
end Go.Proofs.YthilcnhnfdddhaaDoor
