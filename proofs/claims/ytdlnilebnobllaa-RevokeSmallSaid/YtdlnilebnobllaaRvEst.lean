/- revoke.establish over this seat's program. -/
import Derived.Test.YtdlnilebnobllaaRevF
import Derived.Test.YtdlnilebnobllaaFlat
import Derived.LoopN
namespace Go.Proofs.Ytdlnilebnobllaa
open Go.RowKit Go.Shelf Go.Sort

theorem rvk_len (x : Rvk) : x.cells.length = 5 := rfl
/-- a slice that owns revokes -/
abbrev OwnV (w : World) (base : Nat) (v : Value) (l : List Rvk) : Prop := Owns Rvk.cells 5 50 w base v l
theorem ownV_cells {w : World} {base g n cap : Nat} {l : List Rvk} (h : OwnV w base (.slice (some ⟨g, 0, none⟩) n cap) l) (k : Nat) {x : Rvk} (hx : l[k]? = some x) :
    w.cell? ⟨g, k * 5, none⟩ = some (.int .i64 (x.trick : Int)) ∧ w.cell? ⟨g, k * 5 + 1, none⟩ = some (.int .u8 (x.seat : Int)) ∧ w.cell? ⟨g, k * 5 + 2, none⟩ = some (.int .u8 (x.suit : Int)) ∧
    w.cell? ⟨g, k * 5 + 3, none⟩ = some (.int .u8 (x.card : Int)) ∧ w.cell? ⟨g, k * 5 + 4, none⟩ = some (.bool x.est) :=
  ⟨h.cell k 0 (by omega) hx, h.cell k 1 (by omega) hx, h.cell k 2 (by omega) hx, h.cell k 3 (by omega) hx, h.cell k 4 (by omega) hx⟩
/-- revoke.establish of one -/
def est1 (num : Int) (seat : Nat) (v : Rvk) : Rvk := if (v.trick : Int) = num ∧ v.seat % 2 = seat % 2 then { v with est := true } else v
theorem estab_eq (l : List Rvk) (num : Int) (seat : Nat) : estab l num seat = l.map (est1 num seat) := rfl
/-- revoke.establish, k rounds -/
def estTo (l : List Rvk) (num : Int) (seat k : Nat) : List Rvk := (l.take k).map (est1 num seat) ++ l.drop k
theorem estTo_length (l : List Rvk) (num : Int) (seat k : Nat) : (estTo l num seat k).length = l.length := by simp [estTo]; omega
theorem estTo_at (l : List Rvk) (num : Int) (seat k : Nat) (h : k < l.length) : (estTo l num seat k)[k]? = some l[k] := by
  unfold estTo
  rw [List.getElem?_append_right (by simp; omega)]
  simp [List.getElem?_drop, Nat.min_eq_left (Nat.le_of_lt h), List.getElem?_eq_getElem h]
theorem estTo_succ (l : List Rvk) (num : Int) (seat k : Nat) (h : k < l.length) : estTo l num seat (k + 1) = (estTo l num seat k).set k (est1 num seat l[k]) := by
  unfold estTo
  rw [List.take_succ_eq_append_getElem h, List.map_append, List.set_append_right _ _ (by simp; omega)]
  simp [Nat.min_eq_left (Nat.le_of_lt h)]
  rw [List.drop_eq_getElem_cons h]
  rfl
theorem set_same {α : Type} (l : List α) (k : Nat) (x : α) (h : l[k]? = some x) : l.set k x = l := by
  obtain ⟨h1, h2⟩ := List.getElem?_eq_some_iff.1 h
  subst h2
  exact List.set_getElem_self h1
theorem rev_establish (l : List Rvk) (num : Int) (seat base g len cap : Nat) (w : World) (hl : l.length = len) (hown : OwnV w base (.slice (some ⟨g, 0, none⟩) len cap) l) (hlen : len ≤ 60000) (hb : g < w.heap.size) :
    Calls Try.prog 37 #[.slice (some ⟨g, 0, none⟩) len cap, .int .i64 num, .int .u8 (seat : Int)] w fun e w' => e = .returned (.tuple #[]) ∧ OwnV w' base (.slice (some ⟨g, 0, none⟩) len cap) (estab l num seat) ∧ w.grownBy w' (some g) := by
  have HL := Lib.hid hl
  clear hl
  go_enter Try.func37, Try.ntmps37
  go_wp2
  go_loopw [10] (fun i wr => ∃ k : Nat, k ≤ len ∧ i = .int .i64 (k : Int) ∧ OwnV wr base (.slice (some ⟨g, 0, none⟩) len cap) (estTo l num seat k) ∧ w.grownBy wr (some g)) (fun i _ => len - (intOf i).toNat)
  case atStart => exact ⟨0, by omega, rfl, by simpa [estTo] using hown, World.grownBy.refl w _⟩
  case round =>
    obtain ⟨k, hk, rfl, ho, hg⟩ := hrel
    by_cases hlt : k < len
    · have hkl : k < l.length := by rw [HL.out]; exact hlt
      have hat := estTo_at l num seat k hkl
      have hsu := Lib.hid (estTo_succ l num seat k hkl)
      obtain ⟨c0, c1, c2, c3, c4⟩ := ownV_cells ho k hat
      have hsz := hg.size
      have hf := (ho.alloc (.cells #[.int .i64 (l[k].trick : Int), .int .u8 (l[k].seat : Int), .int .u8 (l[k].suit : Int), .int .u8 (l[k].card : Int), .bool l[k].est] 50)).frozen (k * 5 + 4)
      have hgl : g < wr.heap.size := by omega
      have c4' := (World.cell?_alloc_lt wr (.cells #[.int .i64 (l[k].trick : Int), .int .u8 (l[k].seat : Int), .int .u8 (l[k].suit : Int), .int .u8 (l[k].card : Int), .bool l[k].est] 50) ⟨g, k * 5 + 4, none⟩ hgl).trans c4
      have HAT := Lib.hid hat
      clear hat
      generalize l[k] = x at *
      by_cases h1 : (x.trick : Int) = num
      · have h1' : ((x.trick : Int) == num) = true := by rw [beq_iff_eq]; exact h1
        by_cases h2 : x.seat % 2 = seat % 2
        · have h2' : ((x.seat : Int) % 2 == (seat : Int) % 2) = true := by rw [beq_iff_eq]; omega
          have he := Lib.hid (show est1 num seat x = { x with est := true } by unfold est1; rw [if_pos ⟨h1, h2⟩])
          have H1 := Lib.hid h1
          have H2 := Lib.hid h2
          clear h1 h2
          go_wp2
          go_roundw
          case rel =>
            obtain ⟨h3, h4⟩ := ho.stored k 4 (by omega) (y := { x with est := true }) (u := .bool true) HAT.out rfl
            exact ⟨k + 1, by omega, by go_num, by rw [hsu.out, he.out]; exact h3.alloc _, grownBy_alloc' (grownBy_trans hg h4) _⟩
          case measure => simp [intOf]; omega
        · have h2' : ((x.seat : Int) % 2 == (seat : Int) % 2) = false := by rw [beq_eq_false_iff_ne]; omega
          have he := Lib.hid (show est1 num seat x = x by unfold est1; rw [if_neg (fun h => h2 h.2)])
          have H1 := Lib.hid h1
          clear h1 h2
          go_wp2
          go_roundw
          case rel =>
            refine ⟨k + 1, by omega, by go_num, ?_, grownBy_alloc' hg _⟩
            rw [hsu.out, he.out, set_same _ _ _ HAT.out]
            exact ho.alloc _
          case measure => simp [intOf]; omega
      · have h1' : ((x.trick : Int) == num) = false := by rw [beq_eq_false_iff_ne]; exact h1
        have he := Lib.hid (show est1 num seat x = x by unfold est1; rw [if_neg (fun h => h1 h.1)])
        clear h1
        go_wp2
        go_roundw
        case rel =>
          refine ⟨k + 1, by omega, by go_num, ?_, grownBy_alloc' hg _⟩
          rw [hsu.out, he.out, set_same _ _ _ HAT.out]
          exact ho.alloc _
        case measure => simp [intOf]; omega
    · go_wp2
      go_end0
      refine ⟨rfl, ?_, hg⟩
      have e : estTo l num seat k = estab l num seat := by unfold estTo; rw [List.take_of_length_le (by rw [HL.out]; omega), List.drop_of_length_le (by rw [HL.out]; omega), List.append_nil, estab_eq]
      rw [← e]; exact ho
/-- whatever slice of revokes -/
theorem rev_establish_any (l : List Rvk) (num : Int) (seat base : Nat) (v : Value) (w : World) (hown : OwnV w base v l) (hlen : l.length ≤ 60000) :
    Calls Try.prog 37 #[v, .int .i64 num, .int .u8 (seat : Int)] w fun e w' => e = .returned (.tuple #[]) ∧ OwnV w' base v (estab l num seat) ∧ w.grownBy w' v.ownBlock := by
  rcases hown.form with ⟨rfl, rfl⟩ | ⟨g, cap, rfl, h1, h2, h3, h4⟩
  · have HO := Lib.hid hown
    clear hown
    go_enter Try.func37, Try.ntmps37
    go_wp2
    refine wp_loop_rounds 1 ?_
    rw [rounds_succ]
    go_wp2
    go_end0
    exact ⟨rfl, HO.out, World.grownBy.refl w _⟩
  · exact rev_establish l num seat base g l.length cap w rfl hown hlen h2
end Go.Proofs.Ytdlnilebnobllaa
