/- The contract of options, over this seat's program. -/
import Derived.Test.YtgnlmodaekfhfaaDoorMLdj
namespace Go.Proofs.YtgnlmodaekfhfaaDoor
open Go.RowKit Go.Shelf Go.Sort

/-- what options returns -/
def optA : Array Value := #[.int .u8 1, .func (Fn.func 41) #[] #[], .func (Fn.func 42) #[] #[], .int .u8 2, .func (Fn.func 43) #[] #[], .func (Fn.func 44) #[] #[], .int .u8 4, .func (Fn.func 45) #[] #[], .func (Fn.func 46) #[] #[], .int .u8 8, .func (Fn.func 47) #[] #[], .func (Fn.func 48) #[] #[], .int .u8 16, .func (Fn.func 47) #[] #[], .func (Fn.func 49) #[] #[], .int .u8 32, .func (Fn.func 50) #[] #[], .func (Fn.func 51) #[] #[]]
def optZ : Array Value := #[.int .u8 0, Value.nilFunc, Value.nilFunc, .int .u8 0, Value.nilFunc, Value.nilFunc, .int .u8 0, Value.nilFunc, Value.nilFunc, .int .u8 0, Value.nilFunc, Value.nilFunc, .int .u8 0, Value.nilFunc, Value.nilFunc, .int .u8 0, Value.nilFunc, Value.nilFunc]
theorem size_opt : (Tryd.prog.info? 73).map (·.size) = some optA.size := by kernel_rfl
theorem ld_options {w : World} : Calls Tryd.prog 32 #[] w fun e w' => e = .returned (.agg optA) ∧ Below w.heap.size w w' := by
  have HN := Lib.hid (Row.new w 73 optZ)
  have HB := Lib.hid ((Below.refl w.heap.size w).alloc (Nat.le_refl _) (.cells optZ 73))
  go_enter Tryd.func32, Tryd.ntmps32
  go_upto_region 1 with fail
  change Code.wp _ _ _ _ (w.alloc (.cells optZ 73))
  generalize w.alloc (.cells optZ 73) = w1 at *
  go_wp2_with (refine wpList_store_row rfl 73 (.tmp 0) (.tmp 7) rfl w.heap.size optA rfl rfl 73 _ HN.out size_opt rfl (by simp [optA, Value.oneCell']) ?_)
  refine bodyPost_ret (v := .agg optA) (results_cell1 Tryd.results32 _ _ w.heap.size _ optA (0, 0) _ rfl (setRow_heap _ _ _ _ _ _ HN.out) Tryd.underlying73 rfl size_opt) rfl ⟨rfl, below_setRow HB.out (Nat.le_refl _) _⟩
end Go.Proofs.YtgnlmodaekfhfaaDoor
