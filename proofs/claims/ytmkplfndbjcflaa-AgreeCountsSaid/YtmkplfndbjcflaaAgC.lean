/- Contracts of package agree over this seat's program: Right and Fits over a slice of ranges. -/
import Derived.Test.YtmkplfndbjcflaaAgB
namespace Go.Proofs.Ytmkplfndbjcflaa
open Go.RowKit

/-- the cells of a range, one by one -/
def Rg.cell (r : Rg) : Nat → Int
  | 0 => r.p0 | 1 => r.p1 | 2 => r.a0 | 3 => r.a1 | 4 => r.b0 | 5 => r.b1 | 6 => r.c0 | 7 => r.c1 | 8 => r.d0 | _ => r.d1
/-- A slice of ranges that reads as the list rs in the world w. -/
structure Rgs (w : World) (a : Option Addr) (len : Nat) (rs : List Rg) : Prop where
  length : rs.length = len
  small : len ≤ 14073748835123
  cells : len = 0 ∨ ∃ b off, a = some ⟨b, off, none⟩ ∧ b < w.heap.size ∧ ∀ i r, rs[i]? = some r → ∀ j, j < 10 → w.cell? ⟨b, off + i * 10 + j, none⟩ = some (.int .i64 (r.cell j))
theorem Rgs.below {w w' : World} {a : Option Addr} {len : Nat} {rs : List Rg} (h : Rgs w a len rs) {B : Nat} (hB : w.heap.size ≤ B) (hb : Below B w w') : Rgs w' a len rs := by
  refine ⟨h.length, h.small, ?_⟩
  rcases h.cells with h | ⟨b, off, ha, hlt, hc⟩
  · exact .inl h
  · exact .inr ⟨b, off, ha, Nat.lt_of_lt_of_le hlt hb.size, fun i r hr j hj => (hb.cell (p := ⟨b, _, none⟩) (Nat.lt_of_lt_of_le hlt hB)).trans (hc i r hr j hj)⟩
/-- the ten cells of a range at a place -/
def Ten (w : World) (b o : Nat) (r : Rg) : Prop :=
  w.cell? ⟨b, o, none⟩ = some (.int .i64 r.p0) ∧ w.cell? ⟨b, o + 1, none⟩ = some (.int .i64 r.p1) ∧ w.cell? ⟨b, o + 2, none⟩ = some (.int .i64 r.a0) ∧ w.cell? ⟨b, o + 3, none⟩ = some (.int .i64 r.a1) ∧ w.cell? ⟨b, o + 4, none⟩ = some (.int .i64 r.b0) ∧
  w.cell? ⟨b, o + 5, none⟩ = some (.int .i64 r.b1) ∧ w.cell? ⟨b, o + 6, none⟩ = some (.int .i64 r.c0) ∧ w.cell? ⟨b, o + 7, none⟩ = some (.int .i64 r.c1) ∧ w.cell? ⟨b, o + 8, none⟩ = some (.int .i64 r.d0) ∧ w.cell? ⟨b, o + 9, none⟩ = some (.int .i64 r.d1)
theorem Rgs.ten {w : World} {a : Option Addr} {len : Nat} {rs : List Rg} (h : Rgs w a len rs) {k : Nat} (hk : k < len) :
    ∃ b off r, a = some ⟨b, off, none⟩ ∧ b < w.heap.size ∧ rs[k]? = some r ∧ Ten w b (off + k * 10) r := by
  rcases h.cells with h0 | ⟨b, off, ha, hbl, hc⟩
  · omega
  · obtain ⟨r, hr⟩ : ∃ r, rs[k]? = some r := ⟨_, List.getElem?_eq_getElem (by rw [h.length]; exact hk)⟩
    have hcc := hc k r hr
    exact ⟨b, off, r, ha, hbl, hr, hcc 0 (by omega), hcc 1 (by omega), hcc 2 (by omega), hcc 3 (by omega), hcc 4 (by omega), hcc 5 (by omega), hcc 6 (by omega), hcc 7 (by omega), hcc 8 (by omega), hcc 9 (by omega)⟩
theorem all_take_succ {α : Type} {p : α → Bool} {l : List α} {k : Nat} {x : α} (hx : l[k]? = some x) (h : (l.take k).all p = true) (hp : p x = true) : (l.take (k + 1)).all p = true := by
  rw [List.take_add_one, hx, List.all_append, h]
  simp [hp]
/-- agree.Right -/
def rightV (rs : List Rg) : Bool := decide (rs.length ≤ 20) && rs.all Rg.ok
theorem right_long {rs : List Rg} (h : 20 < rs.length) : rightV rs = false := by
  have : ¬ rs.length ≤ 20 := by omega
  simp [rightV, this]
theorem right_bad {rs : List Rg} {k : Nat} {r : Rg} (hr : rs[k]? = some r) (h : r.ok = false) : rightV rs = false := by
  have : rs.all Rg.ok = false := by
    rw [List.all_eq_false]
    exact ⟨r, List.mem_of_getElem? hr, by simp [h]⟩
  simp [rightV, this]

theorem ag_Right (a : Option Addr) (len cap : Nat) (rs : List Rg) (w : World) (h : Rgs w a len rs) : Calls Try.prog 20 #[.slice a len cap] w fun e w' => e = .returned (.bool (rightV rs)) ∧ Below w.heap.size w w' := by
  have hlen := h.length
  have hsm := h.small
  by_cases h20 : 20 < len
  · have HF := Lib.hid (right_long (rs := rs) (by omega))
    clear hlen
    have d20 : decide (20 < (len : Int)) = true := by simp; omega
    go_enter Try.func20, Try.ntmps20
    go_wp2
    go_ret
    exact ⟨by rw [HF.out]; rfl, Below.refl _ _⟩
  · clear hlen
    have d20 : decide (20 < (len : Int)) = false := by simp; omega
    go_enter Try.func20, Try.ntmps20
    go_wp2
    go_loopw [10] (fun i wr => ∃ (k : Nat), k ≤ len ∧ i = .int .i64 k ∧ (rs.take k).all Rg.ok = true ∧ Below w.heap.size w wr) (fun i _ => len - (intOf i).toNat)
    case atStart => exact ⟨0, by omega, rfl, rfl, Below.refl _ _⟩
    case round =>
      obtain ⟨k, hk, rfl, hok, hB⟩ := hrel
      by_cases hlt : k < len
      · obtain ⟨b, off, r, rfl, hbl, hr, c0, c1, c2, c3, c4, c5, c6, c7, c8, c9⟩ := (h.below (Nat.le_refl _) hB).ten hlt
        cases h0 : r.ok
        · have HF := Lib.hid (right_bad hr h0)
          have HR := Lib.hid hr
          clear hr
          go_wp2_with (go_at_call 44; refine (ag_right r _).mono ?_; rintro e w' ⟨rfl, hb1⟩)
          go_ret
          exact ⟨by rw [HF.out]; rfl, bel_alloc hB hB.size hb1⟩
        · have HN := Lib.hid (all_take_succ hr hok h0)
          have HR := Lib.hid hr
          clear hr
          go_wp2_with (go_at_call 44; refine (ag_right r _).mono ?_; rintro e w' ⟨rfl, hb1⟩)
          go_roundw
          · exact ⟨k + 1, by omega, by simp, HN.out, bel_alloc hB hB.size hb1⟩
          · simp [intOf]; omega
      · obtain rfl : k = len := by omega
        have HE : Hid (rightV rs = true) := Lib.hid (by
          have hl := h.length
          rw [List.take_of_length_le (by omega)] at hok
          have : rs.length ≤ 20 := by omega
          simp only [rightV, hok, this, decide_true, Bool.and_self])
        go_wp2
        go_ret
        exact ⟨by rw [HE.out]; rfl, hB⟩
end Go.Proofs.Ytmkplfndbjcflaa
