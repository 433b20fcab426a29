/- Contract of trick.Playable over this seat's program. -/
import Derived.Test.YtginbellakkliaaDoorPlayBS
namespace Go.Proofs.YtginbellakkliaaDoor
open Go.RowKit Go.Shelf Go.Sort
attribute [local go_sem] Oper.semAt_some

theorem trick_Playable (hand : Nat) (a : Option Addr) (len cap : Nat) (zs : List Nat) (w : World) (hz : Byt w a len zs) (hh : W64 hand) (hT : Tab w) :
    Calls Tryd.prog 43 #[.int .u64 (hand : Int), .slice a len cap] w fun e w' => e = .returned (.tuple #[.int .u64 ((playableV hand zs).1 : Int), .int .i64 ((playableV hand zs).2 : Int)]) ∧ Below w.heap.size w w' := by
  by_cases h : hand < 4503599627370496 ∧ 1 ≤ len ∧ len ≤ 3 ∧ rightB zs = true
  · obtain ⟨h1, h2, h3, h4⟩ := h
    have e : playableV hand zs = (playLate (suit (zs.getD 0 0)) (restV hand zs), 0) := by
      unfold playableV
      rw [hz.length, if_neg (by omega), if_neg (by omega), if_pos h4, if_neg (by omega)]
    rw [e]
    exact play_late hand a len cap zs w hz h1 h2 h3 h4 hT
  · exact play_early hand a len cap zs w hz hh h

theorem playableV_w64 (hand : Nat) (zs : List Nat) (h : W64 hand) : W64 (playableV hand zs).1 := by
  unfold playableV
  split
  · exact W64.zero
  · split
    · exact h
    · split
      · split
        · exact W64.zero
        · simp only [playLate]
          split
          · exact follow_w64 _ _
          · exact h.landn
      · exact W64.zero

end Go.Proofs.YtginbellakkliaaDoor
