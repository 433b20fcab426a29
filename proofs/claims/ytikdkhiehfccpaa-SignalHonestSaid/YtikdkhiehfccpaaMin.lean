/- The builtins min and max on two ints, without a split. No function of the program in sight. -/
import Derived.Test.YtikdkhiehfccpaaAgT
namespace Go.Proofs.Ytikdkhiehfccpaa
open Go.RowKit

section
variable {P : Program} {w : World} {ops : Array Oper} {rest : List Oper} {o : Oper} {a : Act} {Q : Exit → Act → World → Prop}
theorem run_min2 (ty ta tb : TypeId) (p q : Int) : (Builtin.min_ #[ta, tb] ty #[.int .i64 p, .int .i64 q]).run P w = .ok (.int .i64 (mn p q)) w := by
  unfold Builtin.min_ mn
  simp only [List.foldlM_cons, List.foldlM_nil]
  unfold Builtin.min2
  by_cases h : q < p <;> simp [h]
theorem wpList_min (hg : o.guard = none) (s x : Operand) (ta tb : TypeId) (ho : o.op = .call { callee := .builtin .min, args := #[s, x], argTypes := #[ta, tb] }) (p q : Int) (hs : a.eval s = .int .i64 p) (hx : a.eval x = .int .i64 q)
    (h : wpList P ops Q rest (a.put o.dst (.int .i64 (mn p q))) w) : wpList P ops Q (o :: rest) a w := by
  refine wpList_plain hg fun K hK => ?_
  have hr := run_min2 (P := P) (w := w) o.type ta tb p q
  unfold Oper.wp execOp
  simp only [ho, resolve, invoke, builtin, Sem.run_bind, Sem.run_pure, Result.andThen_ok, List.map_toArray, List.map_cons, List.map_nil, hs, hx, hr]
  exact hK _ _ h
theorem run_max2 (ty ta tb : TypeId) (p q : Int) : (Builtin.max_ #[ta, tb] ty #[.int .i64 p, .int .i64 q]).run P w = .ok (.int .i64 (mx p q)) w := by
  unfold Builtin.max_ mx
  simp only [List.foldlM_cons, List.foldlM_nil]
  unfold Builtin.max2
  by_cases h : p < q <;> simp [h]
theorem wpList_max (hg : o.guard = none) (s x : Operand) (ta tb : TypeId) (ho : o.op = .call { callee := .builtin .max, args := #[s, x], argTypes := #[ta, tb] }) (p q : Int) (hs : a.eval s = .int .i64 p) (hx : a.eval x = .int .i64 q)
    (h : wpList P ops Q rest (a.put o.dst (.int .i64 (mx p q))) w) : wpList P ops Q (o :: rest) a w := by
  refine wpList_plain hg fun K hK => ?_
  have hr := run_max2 (P := P) (w := w) o.type ta tb p q
  unfold Oper.wp execOp
  simp only [ho, resolve, invoke, builtin, Sem.run_bind, Sem.run_pure, Result.andThen_ok, List.map_toArray, List.map_cons, List.map_nil, hs, hx, hr]
  exact hK _ _ h
end
end Go.Proofs.Ytikdkhiehfccpaa
