/- revoke.sides over this seat's program. -/
import Derived.Test.YtdlnilebnobllaaRvEst
import Derived.Outline
namespace Go.Proofs.Ytdlnilebnobllaa
open Go.RowKit Go.Shelf Go.Sort

theorem sideV_succ (l : List Rvk) (s k : Nat) (h : k < l.length) : sideV (l.take (k + 1)) s = (sideV (l.take k) s || (l[k].est && l[k].seat % 2 == s)) := by
  unfold sideV
  rw [List.take_succ_eq_append_getElem h, List.any_append]
  simp
theorem rev_sides (l : List Rvk) (base g len cap : Nat) (w : World) (hl : l.length = len) (hown : OwnV w base (.slice (some ⟨g, 0, none⟩) len cap) l) (hlen : len ≤ 60000) (hg : g < w.heap.size) :
    Calls Try.prog 53 #[.slice (some ⟨g, 0, none⟩) len cap] w fun e w' => e = .returned (.agg #[.bool (sideV l 0), .bool (sideV l 1)]) ∧ Below w.heap.size w w' := by
  have HL := Lib.hid hl
  clear hl
  go_enter Try.func53, Try.ntmps53
  go_wp2
  go_loopw [8] (fun i wr => ∃ k : Nat, k ≤ len ∧ i = .int .i64 (k : Int) ∧ Below w.heap.size w wr ∧ Row wr w.heap.size 52 #[.bool false, .bool false] ∧ Row wr (w.heap.size + 1) 52 #[.bool (sideV (l.take k) 0), .bool (sideV (l.take k) 1)]) (fun i _ => len - (intOf i).toNat)
  case atStart => exact ⟨0, by omega, rfl, ((Below.refl _ _).alloc (Nat.le_refl _) _).alloc (by simp) _, (Row.new _ _ _).alloc _, by have := Row.new (w.alloc (.cells #[.bool false, .bool false] 52)) 52 #[.bool false, .bool false]; simpa [sideV] using this⟩
  case round =>
    obtain ⟨k, hk, rfl, hB, hR, hS⟩ := hrel
    by_cases hlt : k < len
    · have hkl : k < l.length := by rw [HL.out]; exact hlt
      have hsz := hB.size
      have hsl := hS.lt
      obtain ⟨c0, c1, c2, c3, c4⟩ := ownV_cells (hown.below hB) k (List.getElem?_eq_getElem hkl)
      have hs0 := Lib.hid (sideV_succ l 0 k hkl)
      have hs1 := Lib.hid (sideV_succ l 1 k hkl)
      generalize l[k] = x at *
      generalize sideV (l.take k) 0 = a0 at *
      generalize sideV (l.take k) 1 = a1 at *
      have hSa := hS.alloc (.cells #[.int .i64 (x.trick : Int), .int .u8 (x.seat : Int), .int .u8 (x.suit : Int), .int .u8 (x.card : Int), .bool x.est] 50)
      have d0 := hSa.cell (x.seat % 2)
      have f0 := hSa.frozen (x.seat % 2)
      have hs2 : x.seat % 2 = 0 ∨ x.seat % 2 = 1 := by omega
      obtain ⟨y, hy⟩ : ∃ y, #[Value.bool a0, Value.bool a1][x.seat % 2]? = some y := by rcases hs2 with h | h <;> rw [h] <;> exact ⟨_, rfl⟩
      rw [hy] at d0
      have HY := Lib.hid hy
      clear hy hs2
      have hgl : g < wr.heap.size := by omega
      cases he : x.est
      · have HE := Lib.hid he
        rw [he] at c4 hSa d0 f0
        clear he
        go_wp2
        go_roundw
        case rel => exact ⟨k + 1, by omega, by go_num, hB.alloc hsz _, hR.alloc _, by rw [hs0.out, hs1.out, HE.out]; simpa using hS.alloc _⟩
        case measure => simp [intOf]; omega
      · have HE := Lib.hid he
        rw [he] at c4 hSa d0 f0
        clear he
        go_wp2
        go_roundw
        case rel =>
          have hne : w.heap.size ≠ w.heap.size + 1 := by omega
          refine ⟨k + 1, by omega, by go_num, (hB.setCell (by simp) _).alloc (by simpa using hsz) _, (hR.other hne).alloc _, ?_⟩
          have h3 := (hS.set (x.seat % 2) (.bool true)).alloc (.cells #[.int .i64 (x.trick : Int), .int .u8 (x.seat : Int), .int .u8 (x.suit : Int), .int .u8 (x.card : Int), .bool true] 50)
          rw [hs0.out, hs1.out, HE.out]
          have hs2 : x.seat % 2 = 0 ∨ x.seat % 2 = 1 := by omega
          rcases hs2 with h | h <;> rw [h] at h3 ⊢ <;> simpa using h3
        case measure => simp [intOf]; omega
    · have d0 := hS.cell 0
      have d1 := hS.cell 1
      have r0 := hR.cell 0
      have r1 := hR.cell 1
      have f0 := hR.frozen 0
      have f1 := hR.frozen 1
      simp at d0 d1 r0 r1
      obtain rfl : k = len := by omega
      rw [List.take_of_length_le (by rw [HL.out]; exact Nat.le_refl _)] at d0 d1
      go_wp2
      refine bodyPost_ret (v := .agg #[.bool (sideV l 0), .bool (sideV l 1)]) ?_ rfl ⟨rfl, ?_⟩
      · simp [results, Try.results53, go_sem, r0, r1]
      · exact (hB.setCell (by simp) _).setCell (by simp) _
end Go.Proofs.Ytdlnilebnobllaa
