/- Two ranges joined (plain), and the type of ranges. -/
import Derived.Test.YtikdkhiehfccpaaMAgp
namespace Go.Proofs.Ytikdkhiehfccpaa
open Go.RowKit Go.Sort Go.Shelf Cnt

theorem under36 : Try.prog.underlying 50 = some (.array 2 3) := by kernel_rfl
theorem size36 : (Try.prog.info? 50).map (·.size) = some 2 := by kernel_rfl
/-- the greater one, the smaller one -/
def mx (x y : Int) : Int := if x < y then y else x
def mn (x y : Int) : Int := if y < x then y else x
/-- what two ranges have in common -/
def Rg.join (r q : Rg) : Rg := ⟨mx r.p0 q.p0, mn r.p1 q.p1, mx r.a0 q.a0, mn r.a1 q.a1, mx r.b0 q.b0, mn r.b1 q.b1, mx r.c0 q.c0, mn r.c1 q.c1, mx r.d0 q.d0, mn r.d1 q.d1⟩
/-- its ten numbers -/
abbrev Rg.arr (r : Rg) : Array Value := #[.int .i64 r.p0, .int .i64 r.p1, .int .i64 r.a0, .int .i64 r.a1, .int .i64 r.b0, .int .i64 r.b1, .int .i64 r.c0, .int .i64 r.c1, .int .i64 r.d0, .int .i64 r.d1]
theorem size39 : (Try.prog.info? 73).map (·.size) = some 10 := by kernel_rfl
end Go.Proofs.Ytikdkhiehfccpaa
