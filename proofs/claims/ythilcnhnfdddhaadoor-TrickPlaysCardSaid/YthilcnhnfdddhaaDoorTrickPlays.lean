/- finesselaw11.TrickPlays returns true for every input. -/
import Derived.Test.YthilcnhnfdddhaaDoorPlays
namespace Go.Proofs.YthilcnhnfdddhaaDoor
open Go.RowKit Go.Shelf Go.Sort
theorem law_TrickPlays (t hand : Nat) (a : Option Addr) (len cap : Nat) (zs : List Nat) (w : World) (_ht : t < 256) (hh : W64 hand) (hz : Byt w a len zs ∧ (a = none → cap = 0)) (hT : Tab w) :
    Calls Tryd.prog 3 #[.int .u8 (t : Int), .int .u64 (hand : Int), .slice a len cap] w fun e w' => e = .returned (.bool true) ∧ Below w.heap.size w w' := by
  obtain ⟨hz, hn⟩ := hz
  by_cases h : 60 < len
  · have h' : decide ((60 : Int) < (len : Int)) = true := by simp; omega
    clear hn
    go_enter Tryd.func3, Tryd.ntmps3
    go_wp2_with (go_at_call 12; refine (law_awake _ hT).mono ?_; rintro e w1 ⟨rfl, hb1⟩)
    go_ret
    exact ⟨rfl, hb1⟩
  · have h' : decide ((60 : Int) < (len : Int)) = false := by simp; omega
    have HN := Lib.hid hn
    clear hn
    go_enter Tryd.func3, Tryd.ntmps3
    go_wp2_with (first | (go_at_call 11; refine (law_plays t hand a len cap zs _ hh hz HN.out (by omega) hT).mono ?_; rintro e w1 ⟨rfl, hb1⟩) | (go_at_call 12; refine (law_awake _ (hT.below hT.pos hb1)).mono ?_; rintro e w2 ⟨rfl, hb2⟩))
    go_ret
    exact ⟨rfl, hb1.trans (hb2.mono hb1.size)⟩
end Go.Proofs.YthilcnhnfdddhaaDoor
