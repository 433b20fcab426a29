/- The body of finesselaw12.PlayWrong over this seat's program, as its frame asks for it. -/
import Derived.Test.YtginbellakkliaaDoorPyT
namespace Go.Proofs.YtginbellakkliaaDoor
open Go.RowKit

theorem law_PlayWrong (a : Option Addr) (len cap : Nat) (zs : List Nat) (n c way wh : Nat) (w : World) (hz : Byt w a len zs) (hn : n < 256) (hc : c < 256) (hway : way < 256) (hwh : wh < 256) (hT : Tab w) :
    Calls Tryd.prog 4 #[.slice a len cap, .int .u8 (n : Int), .int .u8 (c : Int), .int .u8 (way : Int), .int .u8 (wh : Int)] w fun e w' => e = .returned (.bool true) ∧ Below w.heap.size w w' :=
  pw_all ⟨zs, n, c⟩ a len cap way wh w hz hn hc hway hwh hT
end Go.Proofs.YtginbellakkliaaDoor
