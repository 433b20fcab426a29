/- math/bits.OnesCount64 over this seat's program: how many bits a word has. -/
import Derived.Test.YtdlnilebnobllaaOnesQ
namespace Go.Proofs.Ytdlnilebnobllaa
open Go.RowKit
theorem bits_ones (x : Nat) (hx : W64 x) (w : World) : Calls Try.prog 51 #[.int .u64 (x : Int)] w fun e w' => e = .returned (.int .i64 ((pop x : Nat) : Int)) ∧ w = w' := by
  have h1 := ones_1 x hx
  have h2 := ones_2 (S1 8 x) (S1_lt x hx)
  have h3 := ones_3 (S2 8 (S1 8 x)) (S2_le _)
  have h4 : S3 8 (S2 8 (S1 8 x)) = pb x 8 := S3_T 8 x
  obtain ⟨h5, h6⟩ := ones_4 x
  obtain ⟨h7, h8⟩ := ones_5 (pb x 8) h5
  have h9 := bits_and_i64 _ h8
  rw [h4] at h3
  rw [h6] at h9
  have H1 := Lib.hid h1
  have H2 := Lib.hid h2
  have H3 := Lib.hid h3
  have H7 := Lib.hid h7
  have H9 := Lib.hid h9
  have H8 : Hid (wrap64 ((Sum (pb x 8) : Nat) : Int) = ((Sum (pb x 8) : Nat) : Int)) := Lib.hid (IntWalk.wrap64_in _ (by omega))
  clear h1 h2 h3 h4 h5 h6 h7 h8 h9
  go_enter Try.func51, Try.ntmps51
  go_wp2
  go_ret
  refine ⟨?_, rfl⟩
  rw [H1.out, H2.out, H3.out, H7.out, H8.out, H9.out]
  rfl
end Go.Proofs.Ytdlnilebnobllaa
