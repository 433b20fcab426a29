/- App, KitB in one text. -/
import Derived.Test.YtdlnilebnobllaaRvWin
import Derived.Laws.AppendOwnNone
import Derived.ArgAppend
import Derived.BigQuiet
import Derived.Deep.QuietTactic

/- append(v, src...) on a slice of bytes that the call made itself. -/
namespace Go.Proofs.Ytdlnilebnobllaa
open Go.RowKit Go.Shelf Go.Sort

theorem flatU_eq (zs : List Nat) : zs.flatMap encU = zs.map fun z : Nat => Value.int .u8 (z : Int) := by
  induction zs with
  | nil => rfl
  | cons z l ih => simp [List.flatMap_cons, ih]
theorem byt_row {w : World} {a : Option Addr} {len : Nat} {zs : List Nat} (h : Byt w a len zs) (ad : Addr) (ha : a = some ad) (j : Nat) (u : Value) (hu : (zs.flatMap encU)[j]? = some u) : w.cell? (ad.add j) = some u := by
  rw [flatU_eq] at hu
  have hj : j < zs.length := by
    have := (List.getElem?_eq_some_iff.1 hu).1; rwa [List.length_map] at this
  obtain ⟨b, off, ha', hb, hc⟩ := h.at (by have := h.length; omega)
  rw [ha] at ha'
  injection ha' with ha'
  subst ha'
  have e : u = .int .u8 ((zs.getD j 0 : Nat) : Int) := by
    rw [List.getElem?_map, List.getElem?_eq_getElem hj] at hu
    rw [List.getD_eq_getElem?_getD, List.getElem?_eq_getElem hj]
    simpa using hu.symm
  rw [e, ← hc j (by have := h.length; omega)]
  by_cases h0 : j = 0
  · subst h0; simp [Addr.add]
  · simp [Addr.add, h0]
theorem flatU_len (zs : List Nat) : (zs.flatMap encU).length = zs.length := by rw [flatU_eq, List.length_map]
theorem flatU_one (zs : List Nat) : ∀ u ∈ zs.flatMap encU, u.oneCell' = true := by
  intro u hu
  rw [flatU_eq] at hu
  obtain ⟨z, _, rfl⟩ := List.mem_map.1 hu
  rfl
/-- append(v, src...), v the call's own -/
theorem appU {w : World} {ops : Array Oper} {rest : List Oper} {o : Oper} {a : Act} {Q : Exit → Act → World → Prop} (hgd : o.guard = none) (s x : Operand)
    (ho : o.op = .call { callee := .builtin .append, args := #[s, x], argTypes := #[25, 25] })
    (base : Nat) (v : Value) (zs ys : List Nat) (hs : a.eval s = v) (hown : OwnU w base v zs) (ad : Addr) (m c : Nat) (hx : a.eval x = .slice (some ad) m c) (hy : Byt w (some ad) m ys)
    (hbytes : zs.length + m ≤ 140737488355328) (hbase : base ≤ w.heap.size)
    (h : ∀ v' w', OwnU w' base v' (zs ++ ys) → Below base w w' → w.grownBy w' v.ownBlock → (v'.ownBlock = v.ownBlock ∨ v'.ownBlock = some w.heap.size) → wpList Try.prog ops Q rest (a.put o.dst v') w') : wpList Try.prog ops Q (o :: rest) a w := by
  obtain ⟨i0, hi, hz0, hz1, hz2⟩ := info_parts info_u8'
  have hl := hy.length
  refine wpList_append_own_at _ hgd s x 25 ho base 5 i0 (.int .u8 0) 1 1 Try.underlying25 hi hz0 hz1 hz2 rfl (by decide) v zs.length (zs.flatMap encU) hs hown.2 ad m c (ys.flatMap encU) hx (by rw [flatU_len, hl]; omega) (byt_row hy ad rfl) (flatU_one ys) (by unfold maxLen; omega) (by omega) hbase ?_
  intro v' w' h1 h2 _ h3
  refine h v' w' ⟨encU_len, ?_⟩ ((Below.refl _ _).grown h2 hbase (fun k hk => (World.ownsRow.lt hown.2 k hk).1)) h2 h3
  rw [List.length_append, List.flatMap_append, hl]
  exact h1
theorem ownU_made0 (w : World) (base : Nat) (h : base ≤ w.heap.size) : OwnU (w.alloc (.cells #[] 5)) base (.slice (some ⟨w.heap.size, 0, none⟩) 0 0) [] :=
  ⟨encU_len, World.ownsRow_made w #[] 0 h (by unfold maxLen; omega) rfl⟩
/-- one byte in a new block -/
theorem byt_new1 (w : World) (c : Nat) (hc : c < 256) : Byt (w.alloc (.cells #[.int .u8 (c : Int)] 5)) (some ⟨w.heap.size, 0, none⟩) 1 [c] :=
  ⟨rfl, by simp, by intro i; rcases i with _ | _ <;> simp; exact hc, .inr ⟨w.heap.size, 0, rfl, by simp, fun i hi => by
    obtain rfl : i = 0 := by simp at hi; exact hi
    simp only [World.cell?, World.alloc_heap_new]
    simp⟩⟩
theorem own_at {w : World} {base g n cap : Nat} {l : List Nat} (h : OwnU w base (.slice (some ⟨g, 0, none⟩) n cap) l) {k : Nat} (hk : k < l.length) : w.cell? ⟨g, k, none⟩ = some (.int .u8 ((l.getD k 0 : Nat) : Int)) ∧ w.frozen? ⟨g, k, none⟩ = false := by
  have h1 := Owns.cell h k 0 (by omega) (List.getElem?_eq_getElem hk)
  rw [Nat.mul_one, Nat.add_zero] at h1
  refine ⟨?_, Owns.frozen h k⟩
  rw [h1, List.getD_eq_getElem?_getD, List.getElem?_eq_getElem hk]; rfl
theorem own_put {w : World} {base g n cap : Nat} {l : List Nat} (h : OwnU w base (.slice (some ⟨g, 0, none⟩) n cap) l) {k : Nat} (hk : k < l.length) (z : Nat) : OwnU (w.setCell ⟨g, k, none⟩ (.int .u8 (z : Int))) base (.slice (some ⟨g, 0, none⟩) n cap) (l.set k z) := by
  have h1 := (Owns.stored h k 0 (by omega) (x := l[k]) (y := z) (u := .int .u8 (z : Int)) (List.getElem?_eq_getElem hk) rfl).1
  rwa [Nat.mul_one, Nat.add_zero] at h1
end Go.Proofs.Ytdlnilebnobllaa

/- Contracts of finessekit.LentBytes and KeptBytes over this seat's program (a seat with no slices.Collect). -/
namespace Go.Proofs.Ytdlnilebnobllaa
open Go.RowKit Go.Shelf Go.Sort

/-- the cells of a list of bytes -/
def u8s (zs : List Nat) : List Value := zs.map fun (z : Nat) => Value.int .u8 (z : Int)
theorem u8s_flat (zs : List Nat) : u8s zs = zs.flatMap encU := (flatU_eq zs).symm
theorem u8s_length (zs : List Nat) : (u8s zs).length = zs.length := by simp [u8s]
theorem u8s_append (zs ys : List Nat) : u8s (zs ++ ys) = u8s zs ++ u8s ys := by simp [u8s]
theorem u8s_one (zs : List Nat) : ∀ u ∈ u8s zs, u.oneCell' = true := by rw [u8s_flat]; exact flatU_one zs
theorem byt_cells {w : World} {a : Option Addr} {len : Nat} {zs : List Nat} (h : Byt w a len zs) (ad : Addr) (ha : a = some ad) (j : Nat) (u : Value) (hu : (u8s zs)[j]? = some u) : w.cell? (ad.add j) = some u := by
  rw [u8s_flat] at hu
  exact byt_row h ad ha j u hu
theorem take_snoc (zs : List Nat) (k : Nat) (h : k < zs.length) : zs.take (k + 1) = zs.take k ++ [zs.getD k 0] := by
  rw [List.take_succ_eq_append_getElem h, List.getD_eq_getElem?_getD, List.getElem?_eq_getElem h]; rfl
/-- finessekit.markByte of slice 1 -/
def markI (x : Int) : Int := IntKind.u64.wrap (x * 11400714819323198485) / 72057594037927936 % 256
def markB (i : Nat) : Nat := (markI (8000024 + (i : Int))).toNat
def marks : List Nat := (List.range 12).map markB
theorem markB_cast (i : Nat) : ((markB i : Nat) : Int) = markI (8000024 + (i : Int)) := by
  unfold markB markI; omega
theorem markB_lt (i : Nat) : markB i < 256 := by unfold markB markI; omega
theorem kit_mark (i : Nat) (hi : i < 12) (w : World) :
    Calls Try.prog 55 #[.int .i64 1, .int .i64 (i : Int)] w fun e w' => e = .returned (.int .i64 (8000024 + (i : Int))) ∧ w = w' := by
  go_enter Try.func55, Try.ntmps55
  go_wp2
  go_ret
  exact ⟨rfl, rfl⟩
theorem kit_markByte (i : Nat) (hi : i < 12) (w : World) :
    Calls Try.prog 39 #[.int .i64 1, .int .i64 (i : Int)] w fun e w' => e = .returned (.int .u8 (markB i : Int)) ∧ w = w' := by
  have hm := kit_mark i hi w
  have HE := Lib.hid (markB_cast i)
  have hx : 0 ≤ 8000024 + (i : Int) ∧ 8000024 + (i : Int) < 9000000 := by omega
  generalize 8000024 + (i : Int) = x at *
  have HM := Lib.hid hm
  clear hm
  go_enter Try.func39, Try.ntmps39
  go_wp2_with (go_at_call 55; refine HM.out.mono ?_; rintro e w' ⟨rfl, rfl⟩)
  go_ret
  exact ⟨by rw [HE.out]; rfl, rfl⟩
theorem marks_length : marks.length = 12 := by simp [marks]
theorem marks_at (k : Nat) (h : k < 12) : marks.getD k 0 = markB k := by
  unfold marks; rw [List.getD_eq_getElem?_getD, List.getElem?_map, List.getElem?_range h, Option.map_some, Option.getD_some]
theorem marks_take (k : Nat) (h : k < 12) : marks.take (k + 1) = marks.take k ++ [markB k] := by
  rw [take_snoc marks k (by rw [marks_length]; exact h), marks_at k h]
theorem byte_append {zs ys : List Nat} (hz : ∀ i, zs.getD i 0 < 256) (hy : ∀ i, ys.getD i 0 < 256) (i : Nat) : (zs ++ ys).getD i 0 < 256 := by
  rw [List.getD_eq_getElem?_getD, List.getElem?_append]
  split
  · have := hz i; rwa [List.getD_eq_getElem?_getD] at this
  · have := hy (i - zs.length); rwa [List.getD_eq_getElem?_getD] at this
theorem marks_byte (i : Nat) : marks.getD i 0 < 256 := by
  rcases Nat.lt_or_ge i 12 with h | h
  · rw [marks_at i h]; exact markB_lt i
  · rw [List.getD_eq_getElem?_getD, List.getElem?_eq_none (by rw [marks_length]; exact h)]; simp

theorem Byt.nil {w : World} {a : Option Addr} {len : Nat} {zs : List Nat} (h : Byt w a len zs) (ha : a = none) : len = 0 := by
  rcases h.cells with h | ⟨b, off, h, _⟩
  · exact h
  · rw [ha] at h; cases h
/-- A call hands back a slice of its own that reads as zs, and has the marks behind it. -/
def Lent (w : World) (len : Nat) (zs : List Nat) (e : Ending) (w' : World) : Prop :=
  e = .returned (.slice (some ⟨w.heap.size, 0, none⟩) len (len + 12)) ∧ Byt w' (some ⟨w.heap.size, 0, none⟩) (len + 12) (zs ++ marks) ∧ Below w.heap.size w w' ∧ OwnU w' w.heap.size (.slice (some ⟨w.heap.size, 0, none⟩) (len + 12) (len + 12)) (zs ++ marks)

set_option maxRecDepth 100000 in
theorem kit_lent (a : Option Addr) (len cap : Nat) (zs : List Nat) (w : World) (hz : Byt w a len zs) (hnil : a = none → cap = 0) (h60 : len ≤ 60) :
    Calls Try.prog 24 #[.slice a len cap] w (Lent w len zs) := by
  obtain ⟨i0, hi, hz0, hz1, hz2⟩ := info_parts info_u8'
  have HL := Lib.hid hz.length
  have HN := Lib.hid hnil
  clear hnil
  go_enter Try.func24, Try.ntmps24
  go_wp2_with (first
    | (at_make; refine wpList_make_own _ rfl _ _ 25 rfl w.heap.size 5 i0 (.int .u8 0) 1 Try.underlying25 hi hz0 hz1 _ _ _ (len + 12) rfl rfl (by omega) (by rw [hz2]; omega) (by unfold maxLen; omega) (Nat.le_refl _) ?_; intro w1 hown1 hg1; have hB1 : Below w.heap.size w w1 := (Below.refl _ _).grown hg1 (Nat.le_refl _) (fun _ h => by cases h))
    | (at_builtin; refine wpList_append_fits_any _ rfl (.tmp 9) (.tmp 10) 25 rfl w.heap.size 5 i0 1 Try.underlying25 hi hz1 w.heap.size 0 (len + 12) [] rfl hown1 _ _ _ (u8s zs) rfl (by rw [u8s_length, HL.out]; omega) (fun h => ⟨hz.nil h, HN.out h⟩) (byt_cells (hz.below (Nat.le_refl _) hB1)) (u8s_one zs) (by omega) ?_; intro w2 hown2 hg2; simp only [List.nil_append, Nat.zero_add] at hown2; have hB2 : Below w.heap.size w w2 := hB1.grown hg2 hB1.size (fun _ h => by cases h; exact Nat.le_refl _)))
  go_loopw [3, 4] (fun v i wr => ∃ k : Nat, k ≤ 12 ∧ i = .int .i64 (k : Int) ∧ v = .slice (some ⟨w.heap.size, 0, none⟩) (len + k) (len + 12) ∧ wr.ownsRow w.heap.size 5 1 (.slice (some ⟨w.heap.size, 0, none⟩) (len + k) (len + 12)) (len + k) (u8s (zs ++ marks.take k)) ∧ Below w.heap.size w wr) (fun _ i _ => 12 - (intOf i).toNat)
  case atStart => exact ⟨0, by omega, rfl, rfl, by simpa using hown2, hB2⟩
  case round =>
    obtain ⟨k, hk, rfl, rfl, hown, hB⟩ := hrel
    by_cases hlt : k < 12
    · have HT := Lib.hid (marks_take k hlt)
      have hsz : w.heap.size ≤ wr.heap.size := hB.size
      go_wp2_with (first
        | (go_at_call 39; refine (kit_markByte k hlt _).mono ?_; rintro e w' ⟨rfl, rfl⟩)
        | (at_builtin; refine wpList_append_fits _ rfl (.tmp 16) (.tmp 19) 25 rfl w.heap.size 5 i0 1 Try.underlying25 hi hz1 w.heap.size (len + k) (len + 12) (u8s (zs ++ marks.take k)) rfl (hown.alloc _) ⟨wr.heap.size, 0, none⟩ 1 1 (u8s [markB k]) rfl rfl (byt_cells (byt_new1 wr (markB k) (markB_lt k)) _ rfl) (u8s_one _) (by omega) ?_; intro w4 hown4 hg4))
      go_roundw
      case rel =>
        refine ⟨k + 1, by omega, by go_num, rfl, ?_, (hB.alloc hsz _).grown hg4 (by simp; omega) (fun _ h => by cases h; exact Nat.le_refl _)⟩
        rw [HT.out, ← List.append_assoc, u8s_append]; exact hown4
      case measure => simp [intOf]; omega
    · have hk' : k = 12 := by omega
      subst hk'
      go_wp2
      go_ret
      refine ⟨rfl, ?_⟩
      have e : marks.take 12 = marks := List.take_of_length_le (by rw [marks_length]; omega)
      rw [e] at hown
      have el : (zs ++ marks).length = len + 12 := by rw [List.length_append, HL.out, marks_length]
      have hown' : OwnU wr w.heap.size (.slice (some ⟨w.heap.size, 0, none⟩) (len + 12) (len + 12)) (zs ++ marks) := ⟨encU_len, by rw [el, ← u8s_flat]; exact hown⟩
      obtain ⟨a', cap', h1, _, _, _, _, h2⟩ := OwnU.byt hown' (by omega) (byte_append hz.byte marks_byte)
      rw [el] at h1 h2
      injection h1 with h3 h4 h5
      rw [← h3] at h2
      exact ⟨h2, hB, hown'⟩

theorem getD_left {zs ys : List Nat} {i : Nat} (h : i < zs.length) : (zs ++ ys).getD i 0 = zs.getD i 0 := by
  rw [List.getD_eq_getElem?_getD, List.getD_eq_getElem?_getD, List.getElem?_append_left h]
theorem getD_right {zs ys : List Nat} {i : Nat} (h : zs.length ≤ i) : (zs ++ ys).getD i 0 = ys.getD (i - zs.length) 0 := by
  rw [List.getD_eq_getElem?_getD, List.getD_eq_getElem?_getD, List.getElem?_append_right h]

set_option maxRecDepth 100000 in
theorem kit_kept (g : Nat) (a : Option Addr) (len cap : Nat) (zs : List Nat) (w : World) (hz : Byt w a len zs) (h60 : len ≤ 60) (hg : Byt w (some ⟨g, 0, none⟩) (len + 12) (zs ++ marks)) :
    Calls Try.prog 31 #[.slice (some ⟨g, 0, none⟩) len (len + 12), .slice a len cap] w fun e w' => e = .returned (.bool true) ∧ Below w.heap.size w w' := by
  have HL := Lib.hid hz.length
  obtain ⟨g', off', hge, hgb, hgc⟩ := hg.at (by omega)
  injection hge with hge
  injection hge with h1 h2
  subst h1; subst h2
  simp only [Nat.zero_add] at hgc
  have HGC := Lib.hid hgc
  clear hgc
  go_enter Try.func31, Try.ntmps31
  go_wp2_with fail
  go_loopw [6] (fun i wr => ∃ k : Nat, k ≤ len + 12 ∧ i = .int .i64 (k : Int) ∧ Below w.heap.size w wr) (fun i _ => len + 12 - (intOf i).toNat)
  case atStart => exact ⟨0, by omega, rfl, Below.refl _ _⟩
  case round =>
    obtain ⟨k, hk, rfl, hB⟩ := hrel
    by_cases hlt : k < len + 12
    · have hcg : wr.cell? ⟨g, k, none⟩ = some (.int .u8 (((zs ++ marks).getD k 0 : Nat) : Int)) := (hB.cell (p := ⟨g, k, none⟩) hgb).trans (HGC.out k hlt)
      by_cases hkl : k < len
      · obtain ⟨b, off, rfl, hb, hcs⟩ := hz.at (by omega)
        have hca : wr.cell? ⟨b, off + k, none⟩ = some (.int .u8 ((zs.getD k 0 : Nat) : Int)) := (hB.cell (p := ⟨b, off + k, none⟩) hb).trans (hcs k hkl)
        rw [getD_left (by rw [HL.out]; exact hkl)] at hcg
        clear hcs
        generalize zs.getD k 0 = c at *
        have hr0 := fun dd os => cell_regrown hcg dd os
        have hr1 := fun dd os => cell_regrown hca dd os
        have hle : decide (len ≤ k) = false := by simp; omega
        go_wp2
        refine wp_region_quiet_below (by kernel_rfl) (by kernel_rfl) ?_
        repeat (go_big_quiet_step (fail))
        refine wpQuiet_nil ?_
        rintro _ ⟨p, rfl⟩
        have hb3 := below_regrown wr p.d p.os
        generalize grow (redrawn wr p.d) p.os = w1 at *
        clear hr0 hr1
        go_wp2
        go_roundw
        case rel => exact ⟨k + 1, by omega, by go_num, hB.trans (hb3.mono hB.size)⟩
        case measure => simp [intOf]; omega
      · obtain ⟨j, hje⟩ : ∃ j, k = len + j := ⟨k - len, by omega⟩
        have hj : j < 12 := by omega
        rw [getD_right (by rw [HL.out]; omega), HL.out, show k - len = j by omega, marks_at j hj] at hcg
        have hr0 := fun dd os => cell_regrown hcg dd os
        have hle : decide (len ≤ k) = true := by simp; omega
        have hle2 : decide (k < len) = false := by simp; omega
        have hw1 : IntKind.i64.wrap ((k : Int) - (len : Int)) = (j : Int) := by rw [IntWalk.i64_in _ (by omega)]; omega
        have HJE := Lib.hid hje
        clear hje
        go_wp2
        refine wp_region_quiet_below (by kernel_rfl) (by kernel_rfl) ?_
        repeat (go_big_quiet_step ((exact Calls.regrown_of ((kit_markByte j hj _).mono fun _ _ ⟨he, hw⟩ => ⟨he, hw ▸ Below.refl _ _⟩))))
        refine wpQuiet_nil ?_
        rintro _ ⟨p, rfl⟩
        have hb3 := below_regrown wr p.d p.os
        generalize grow (redrawn wr p.d) p.os = w1 at *
        clear hr0 hw1
        go_wp2
        go_roundw
        case rel => exact ⟨k + 1, by omega, by go_num, hB.trans (hb3.mono hB.size)⟩
        case measure => simp [intOf]; omega
    · have hk' : k = len + 12 := by omega
      subst hk'
      go_wp2
      go_ret
      exact ⟨rfl, hB⟩
end Go.Proofs.Ytdlnilebnobllaa
