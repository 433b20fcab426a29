/- Slices of ints that came in or were made; finessekit.SameInts. -/
import Derived.Test.YtikdkhiehfccpaaMPln
namespace Go.Proofs.Ytikdkhiehfccpaa
open Go.RowKit Go.Sort Go.Shelf Cnt

/-- a slice of ints that reads as f -/
structure Ins (w : World) (a : Option Addr) (len : Nat) (f : Nat → Nat) : Prop where
  small : len ≤ 1000
  cells : len = 0 ∨ ∃ b, a = some ⟨b, 0, none⟩ ∧ b < w.heap.size ∧ ∀ i, i < len → w.cell? ⟨b, i, none⟩ = some (.int .i64 (f i : Int))
theorem Ins.later {w w' : World} {a : Option Addr} {len : Nat} {f : Nat → Nat} (h : Ins w a len f) (hb : Below w.heap.size w w') : Ins w' a len f := by
  refine ⟨h.small, ?_⟩
  rcases h.cells with h | ⟨b, ha, hlt, hc⟩
  · exact .inl h
  · exact .inr ⟨b, ha, Nat.lt_of_lt_of_le hlt hb.size, fun i hi => (hb.cell (p := ⟨b, _, none⟩) hlt).trans (hc i hi)⟩
theorem Ins.none (w : World) (f : Nat → Nat) : Ins w .none 0 f := ⟨by omega, .inl rfl⟩
theorem Ins.row {w : World} {b n : Nat} {T : TypeId} {f : Nat → Nat} (h : Row w b T (tab n f)) (hn : n ≤ 1000) : Ins w (some ⟨b, 0, .none⟩) n f :=
  ⟨hn, .inr ⟨b, rfl, h.lt, fun i hi => (h.cell i).trans (tab_get n f i hi)⟩⟩
theorem kit_sameInts (a b : Option Addr) (len ca cb : Nat) (f : Nat → Nat) (w : World) (ha : Ins w a len f) (hb : Ins w b len f) :
    Calls Try.prog 34 #[.slice a len ca, .slice b len cb] w fun e w' => e = .returned (.bool true) ∧ Below w.heap.size w w' := by
  have HA := Lib.hid ha
  have HB := Lib.hid hb
  have hsm := ha.small
  clear ha hb
  go_enter Try.func34, Try.ntmps34
  go_wp2_with fail
  go_loopw [5] (fun i wr => ∃ (k : Nat), k ≤ len ∧ i = .int .i64 (k : Int) ∧ Below w.heap.size w wr) (fun i _ => len - (intOf i).toNat)
  case atStart => exact ⟨0, by omega, rfl, Below.refl _ _⟩
  case round =>
    obtain ⟨k, hk, rfl, hB⟩ := hrel
    have HBB := Lib.hid hB
    by_cases hlt : k < len
    · have hd : decide ((k : Int) < (len : Int)) = true := by simp; omega
      have hki : (k : Int) < (len : Int) := by omega
      rcases (HA.out.later hB).cells with h0 | ⟨ba, rfl, -, hc⟩
      · omega
      rcases (HB.out.later hB).cells with h0 | ⟨bb, rfl, -, hc'⟩
      · omega
      have c0 := hc k hlt
      have c1 := hc' k hlt
      generalize f k = x at *
      have r0 := fun dd os => cell_regrown c0 dd os
      have r1 := fun dd os => cell_regrown c1 dd os
      have hx : ((x : Int) != (x : Int)) = false := by simp
      clear hc hc' hB
      go_wp2_with fail
      refine wp_region_quiet_below (by kernel_rfl) (by kernel_rfl) ?_
      repeat (first | go_big_quiet_step (fail) | quiet_step (fail))
      refine wpQuiet_nil ?_
      rintro _ ⟨q, rfl⟩
      have HB2 := Lib.hid (HBB.out.trans ((below_regrown wr q.d q.os).mono HBB.out.size))
      generalize grow (redrawn wr q.d) q.os = wa at *
      clear c0 c1 r0 r1
      go_wp2_with fail
      exact ⟨⟨k + 1, by omega, by simp, HB2.out⟩, by simp [intOf]; omega⟩
    · obtain rfl : k = len := by omega
      have hd : decide ((k : Int) < (k : Int)) = false := by simp
      clear hB
      go_wp2_with fail
      go_ret
      exact ⟨rfl, HBB.out⟩
/-- how long the result is, and the error, as what is asked is right or not -/
def resN (n : Nat) (ok : Bool) : Nat := if ok then n else 0
def resE (ok : Bool) : Int := if ok then 0 else 2
end Go.Proofs.Ytikdkhiehfccpaa
