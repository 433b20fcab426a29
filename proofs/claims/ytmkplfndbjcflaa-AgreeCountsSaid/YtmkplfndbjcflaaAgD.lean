/- Contract of agree.Fits over this seat's program. -/
import Derived.Test.YtmkplfndbjcflaaAgC
namespace Go.Proofs.Ytmkplfndbjcflaa
open Go.RowKit

/-- the lengths of the suits of a hand -/
def lensM (h k : Nat) : Nat := pop (scards h k)
/-- whether points and lengths are in a range of an agreement -/
def fitsL (rs : List Rg) (p : Nat) (l : Nat → Nat) : Bool := rs.any fun r => wthn p r.p0 r.p1 && r.long l
/-- agree.Fits -/
def fitsV (rs : List Rg) (h : Nat) : Bool := fitsL rs (ptsM h) (lensM h)
theorem fits_yes {rs : List Rg} {p : Nat} {l : Nat → Nat} {k : Nat} {r : Rg} (hr : rs[k]? = some r) (h1 : wthn p r.p0 r.p1 = true) (h2 : r.long l = true) : fitsL rs p l = true := by
  unfold fitsL
  rw [List.any_eq_true]
  exact ⟨r, List.mem_of_getElem? hr, by simp [h1, h2]⟩
theorem any_take_succ {α : Type} {p : α → Bool} {l : List α} {k : Nat} {x : α} (hx : l[k]? = some x) (h : (l.take k).any p = false) (hp : p x = false) : (l.take (k + 1)).any p = false := by
  rw [List.take_add_one, hx, List.any_append, h]
  simp [hp]
theorem all_fits_no {rs : List Rg} {p : Nat} {l : Nat → Nat} {k : Nat} {r : Rg} (hr : rs[k]? = some r) (h : (rs.take k).any (fun r => wthn p r.p0 r.p1 && r.long l) = false) (h1 : (wthn p r.p0 r.p1 && r.long l) = false) : (rs.take (k + 1)).any (fun r => wthn p r.p0 r.p1 && r.long l) = false :=
  any_take_succ hr h h1
theorem ten_new {r : Rg} {w1 w2 : World} {T : TypeId} (h : Below (w1.alloc (.cells #[.int .i64 r.p0, .int .i64 r.p1, .int .i64 r.a0, .int .i64 r.a1, .int .i64 r.b0, .int .i64 r.b1, .int .i64 r.c0, .int .i64 r.c1, .int .i64 r.d0, .int .i64 r.d1] T)).heap.size (w1.alloc (.cells #[.int .i64 r.p0, .int .i64 r.p1, .int .i64 r.a0, .int .i64 r.a1, .int .i64 r.b0, .int .i64 r.b1, .int .i64 r.c0, .int .i64 r.c1, .int .i64 r.d0, .int .i64 r.d1] T)) w2) :
    w2.cell? ⟨w1.heap.size, 0, none⟩ = some (.int .i64 r.p0) ∧ w2.cell? ⟨w1.heap.size, 1, none⟩ = some (.int .i64 r.p1) ∧ w2.cell? ⟨w1.heap.size, 2, none⟩ = some (.int .i64 r.a0) ∧ w2.cell? ⟨w1.heap.size, 3, none⟩ = some (.int .i64 r.a1) ∧ w2.cell? ⟨w1.heap.size, 4, none⟩ = some (.int .i64 r.b0) ∧
    w2.cell? ⟨w1.heap.size, 5, none⟩ = some (.int .i64 r.b1) ∧ w2.cell? ⟨w1.heap.size, 6, none⟩ = some (.int .i64 r.c0) ∧ w2.cell? ⟨w1.heap.size, 7, none⟩ = some (.int .i64 r.c1) ∧ w2.cell? ⟨w1.heap.size, 8, none⟩ = some (.int .i64 r.d0) ∧ w2.cell? ⟨w1.heap.size, 9, none⟩ = some (.int .i64 r.d1) := by
  have q := fun i => h.cell (p := ⟨w1.heap.size, i, none⟩) (by rw [World.size_alloc]; show w1.heap.size < _; omega)
  refine ⟨?_, ?_, ?_, ?_, ?_, ?_, ?_, ?_, ?_, ?_⟩ <;> exact (q _).trans (World.cell?_alloc_at _ _ _ _ rfl)
/-- the cells of the lengths when k suits are counted -/
def lst (h k : Nat) : Array Value := #[.int .i64 (if 0 < k then ((lensM h 0 : Nat) : Int) else 0), .int .i64 (if 1 < k then ((lensM h 1 : Nat) : Int) else 0), .int .i64 (if 2 < k then ((lensM h 2 : Nat) : Int) else 0), .int .i64 (if 3 < k then ((lensM h 3 : Nat) : Int) else 0)]

set_option maxRecDepth 5000 in
theorem ag_Fits (a : Option Addr) (len cap : Nat) (rs : List Rg) (h : Nat) (hh : W64 h) (w : World) (hr : Rgs w a len rs) : Calls Try.prog 30 #[.slice a len cap, .int .u64 (h : Int)] w fun e w' => e = .returned (.bool (fitsV rs h)) ∧ Below w.heap.size w w' := by
  have hsm := hr.small
  have HR := Lib.hid hr
  clear hr
  go_enter Try.func30, Try.ntmps30
  go_wp2
  go_loopw [6, 10] (fun _ i wr => ∃ (k : Nat), k ≤ 4 ∧ i = .int .i64 k ∧ wr = w.alloc (.cells (lst h k) 81)) (fun _ i _ => 4 - (intOf i).toNat)
  case atStart => exact ⟨0, by omega, rfl, rfl⟩
  case round =>
    obtain ⟨k, hk, rfl, rfl⟩ := hrel
    have hk5 : k = 0 ∨ k = 1 ∨ k = 2 ∨ k = 3 ∨ k = 4 := by omega
    rcases hk5 with rfl | rfl | rfl | rfl | rfl
    · have hsl := scards_lt h 0
      go_wp2_with (first
        | (go_at_call 50; refine (ag_cards h 0 hh (by omega) _).mono ?_; rintro e w' ⟨rfl, rfl⟩)
        | (go_at_call 49; refine (bits_ones (scards h 0) (by unfold W64; omega) _).mono ?_; rintro e w' ⟨rfl, rfl⟩))
      go_roundw
      · exact ⟨1, by omega, by simp, by simp [lst, lensM]⟩
      · simp [intOf]
    · have hsl := scards_lt h 1
      go_wp2_with (first
        | (go_at_call 50; refine (ag_cards h 1 hh (by omega) _).mono ?_; rintro e w' ⟨rfl, rfl⟩)
        | (go_at_call 49; refine (bits_ones (scards h 1) (by unfold W64; omega) _).mono ?_; rintro e w' ⟨rfl, rfl⟩))
      go_roundw
      · exact ⟨2, by omega, by simp, by simp [lst, lensM]⟩
      · simp [intOf]
    · have hsl := scards_lt h 2
      go_wp2_with (first
        | (go_at_call 50; refine (ag_cards h 2 hh (by omega) _).mono ?_; rintro e w' ⟨rfl, rfl⟩)
        | (go_at_call 49; refine (bits_ones (scards h 2) (by unfold W64; omega) _).mono ?_; rintro e w' ⟨rfl, rfl⟩))
      go_roundw
      · exact ⟨3, by omega, by simp, by simp [lst, lensM]⟩
      · simp [intOf]
    · have hsl := scards_lt h 3
      go_wp2_with (first
        | (go_at_call 50; refine (ag_cards h 3 hh (by omega) _).mono ?_; rintro e w' ⟨rfl, rfl⟩)
        | (go_at_call 49; refine (bits_ones (scards h 3) (by unfold W64; omega) _).mono ?_; rintro e w' ⟨rfl, rfl⟩))
      go_roundw
      · exact ⟨4, by omega, by simp, by simp [lst, lensM]⟩
      · simp [intOf]
    · have hpl := ptA_le h 4
      go_wp2_with (go_at_call 31; refine (ag_Points h hh _).mono ?_; rintro e w' ⟨rfl, rfl⟩)
      go_loopw [24] (fun i wr => ∃ (k : Nat), k ≤ len ∧ i = .int .i64 k ∧ (rs.take k).any (fun r => wthn (ptsM h) r.p0 r.p1 && r.long (lensM h)) = false ∧ Below w.heap.size w wr ∧ w.heap.size < wr.heap.size ∧ wr.cell? ⟨w.heap.size, 0, none⟩ = some (.int .i64 (lensM h 0 : Nat)) ∧ wr.cell? ⟨w.heap.size, 1, none⟩ = some (.int .i64 (lensM h 1 : Nat)) ∧ wr.cell? ⟨w.heap.size, 2, none⟩ = some (.int .i64 (lensM h 2 : Nat)) ∧ wr.cell? ⟨w.heap.size, 3, none⟩ = some (.int .i64 (lensM h 3 : Nat))) (fun i _ => len - (intOf i).toNat)
      case atStart =>
        refine ⟨0, by omega, rfl, rfl, (Below.refl _ _).alloc (Nat.le_refl _) _, by rw [World.size_alloc]; omega, ?_, ?_, ?_, ?_⟩ <;> exact World.cell?_alloc_at _ _ _ _ rfl
      case round =>
        obtain ⟨k, hk, rfl, hno, hB, hsz, d0, d1, d2, d3⟩ := hrel
        by_cases hlt : k < len
        · obtain ⟨b, off, r, rfl, hbl, hr, c0, c1, c2, c3, c4, c5, c6, c7, c8, c9⟩ := (HR.out.below (Nat.le_refl _) hB).ten hlt
          have HRk := Lib.hid hr
          clear hr
          cases h1 : wthn (ptsM h) r.p0 r.p1
          · have HN := Lib.hid (all_fits_no HRk.out hno (by simp [h1]))
            go_wp2_with (go_at_call 51; refine (ag_within (ptsM h : Nat) r.p0 r.p1 _).mono ?_; rintro e w' ⟨rfl, hb1⟩)
            go_roundw
            · exact ⟨k + 1, by omega, by simp, HN.out, bel_alloc hB hB.size hb1, Nat.lt_of_lt_of_le (by rw [World.size_alloc]; omega) hb1.size, cell_alloc hsz d0 hb1, cell_alloc hsz d1 hb1, cell_alloc hsz d2 hb1, cell_alloc hsz d3 hb1⟩
            · simp [intOf]; omega
          · cases h2 : r.long (lensM h)
            · have HN := Lib.hid (all_fits_no HRk.out hno (by simp [h1, h2]))
              go_wp2_with (first
                | (go_at_call 51; refine (ag_within (ptsM h : Nat) r.p0 r.p1 _).mono ?_; rintro e w' ⟨rfl, hb1⟩; obtain ⟨q0, q1, q2, q3, q4, q5, q6, q7, q8, q9⟩ := ten_new hb1; have e0 := cell_alloc hsz d0 hb1; have e1 := cell_alloc hsz d1 hb1; have e2 := cell_alloc hsz d2 hb1; have e3 := cell_alloc hsz d3 hb1)
                | (go_at_call 52; refine (ag_long r (lensM h) _).mono ?_; rintro e w' ⟨rfl, hb2⟩))
              go_roundw
              · have hb3 := hb1.trans (hb2.mono hb1.size)
                exact ⟨k + 1, by omega, by simp, HN.out, bel_alloc hB hB.size hb3, Nat.lt_of_lt_of_le (by rw [World.size_alloc]; omega) hb3.size, cell_alloc hsz d0 hb3, cell_alloc hsz d1 hb3, cell_alloc hsz d2 hb3, cell_alloc hsz d3 hb3⟩
              · simp [intOf]; omega
            · have HF := Lib.hid (fits_yes HRk.out h1 h2)
              go_wp2_with (first
                | (go_at_call 51; refine (ag_within (ptsM h : Nat) r.p0 r.p1 _).mono ?_; rintro e w' ⟨rfl, hb1⟩; obtain ⟨q0, q1, q2, q3, q4, q5, q6, q7, q8, q9⟩ := ten_new hb1; have e0 := cell_alloc hsz d0 hb1; have e1 := cell_alloc hsz d1 hb1; have e2 := cell_alloc hsz d2 hb1; have e3 := cell_alloc hsz d3 hb1)
                | (go_at_call 52; refine (ag_long r (lensM h) _).mono ?_; rintro e w' ⟨rfl, hb2⟩))
              go_ret
              exact ⟨by rw [show fitsV rs h = true from HF.out]; rfl, bel_alloc hB hB.size (hb1.trans (hb2.mono hb1.size))⟩
        · obtain rfl : k = len := by omega
          have HE : Hid (fitsV rs h = false) := Lib.hid (by
            have hl := HR.out.length
            rw [List.take_of_length_le (by omega)] at hno
            exact hno)
          go_wp2
          go_ret
          exact ⟨by rw [HE.out]; rfl, hB⟩
end Go.Proofs.Ytmkplfndbjcflaa
