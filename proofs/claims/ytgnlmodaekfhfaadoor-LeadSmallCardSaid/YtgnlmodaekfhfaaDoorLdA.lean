/- Equality of states, over this seat's program (printed by wip/genlda.py). -/
import Derived.Test.YtgnlmodaekfhfaaDoorMLdp
import Derived.Laws.StructEq
import Derived.ChangeKeysEq
import Derived.BigQuiet
import Derived.Deep.QuietTactic
namespace Go.Proofs.YtgnlmodaekfhfaaDoor
open Go.RowKit Go.Shelf Go.Sort

theorem beq_cast (x y : Nat) : (((x : Int) == (y : Int)) : Bool) = (x == y) := by
  by_cases h : x = y
  · subst h; simp
  · rw [beq_eq_false_iff_ne.2 h, beq_eq_false_iff_ne.2 (by omega)]
theorem eq_deal14 (d : Nat) (a b : Nat → Nat) (w : World) : Sem.run Tryd.prog (Op.equalIn (d + 2) 29 (.agg #[.int .u64 (a 0 : Int), .int .u64 (a 1 : Int), .int .u64 (a 2 : Int), .int .u64 (a 3 : Int)]) (.agg #[.int .u64 (b 0 : Int), .int .u64 (b 1 : Int), .int .u64 (b 2 : Int), .int .u64 (b 3 : Int)])) w =
    .ok (a 0 == b 0 && a 1 == b 1 && a 2 == b 2 && a 3 == b 3) w := by
  obtain ⟨i, hi⟩ : ∃ i, Tryd.prog.info? 27 = some i := by
    have h : (Tryd.prog.info? 27).isSome = true := by kernel_rfl
    exact Option.isSome_iff_exists.1 h
  rw [run_equalIn_array (P := Tryd.prog) w (d + 1) _ _ Tryd.underlying29 hi]
  have kc : Tryd.prog.cellsOf 27 = 1 := by kernel_rfl
  have h8 : Tryd.prog.underlying 27 = some (.int .u64) := Tryd.underlying27
  rw [kc, show List.range 4 = [0, 1, 2, 3] from rfl]
  have hp : ∀ (c : Nat → Nat) (k : Nat), k < 4 → ∀ w, Sem.run Tryd.prog (part 27 #[.int .u64 (c 0 : Int), .int .u64 (c 1 : Int), .int .u64 (c 2 : Int), .int .u64 (c 3 : Int)] (k * 1)) w = .ok (.int .u64 (c k : Int)) w := by
    intro c k hk w
    rcases (show k = 0 ∨ k = 1 ∨ k = 2 ∨ k = 3 by omega) with rfl | rfl | rfl | rfl <;> kernel_rfl
  have step : ∀ (k : Nat), k < 4 → ∀ is w, Sem.run Tryd.prog (Op.eqItems (d + 1) 27 1 #[.int .u64 (a 0 : Int), .int .u64 (a 1 : Int), .int .u64 (a 2 : Int), .int .u64 (a 3 : Int)] #[.int .u64 (b 0 : Int), .int .u64 (b 1 : Int), .int .u64 (b 2 : Int), .int .u64 (b 3 : Int)] (k :: is)) w =
      if (a k == b k) = true then Sem.run Tryd.prog (Op.eqItems (d + 1) 27 1 #[.int .u64 (a 0 : Int), .int .u64 (a 1 : Int), .int .u64 (a 2 : Int), .int .u64 (a 3 : Int)] #[.int .u64 (b 0 : Int), .int .u64 (b 1 : Int), .int .u64 (b 2 : Int), .int .u64 (b 3 : Int)] is) w else .ok false w := by
    intro k hk is w
    have he := run_equalIn_int (P := Tryd.prog) w d 27 .u64 .u64 (a k : Int) (b k : Int) h8
    rw [beq_cast] at he
    rw [Op.eqItems, Sem.run_bind, hp a k hk, Result.andThen_ok, Sem.run_bind, hp b k hk, Result.andThen_ok, Sem.run_bind, he, Result.andThen_ok]
    cases a k == b k
    · simp
    · simp
  have last : ∀ w, Sem.run Tryd.prog (Op.eqItems (d + 1) 27 1 #[.int .u64 (a 0 : Int), .int .u64 (a 1 : Int), .int .u64 (a 2 : Int), .int .u64 (a 3 : Int)] #[.int .u64 (b 0 : Int), .int .u64 (b 1 : Int), .int .u64 (b 2 : Int), .int .u64 (b 3 : Int)] []) w = .ok true w := fun w => by simp [Op.eqItems]
  rw [step 0 (by omega), step 1 (by omega), step 2 (by omega), step 3 (by omega), last]
  cases a 0 == b 0 <;> cases a 1 == b 1 <;> cases a 2 == b 2 <;> cases a 3 == b 3 <;> rfl
theorem eq_four14 (d : Nat) (a b : Nat → Nat) (w : World) : Sem.run Tryd.prog (Op.equalIn (d + 2) 42 (.agg #[.int .u8 (a 0 : Int), .int .u8 (a 1 : Int), .int .u8 (a 2 : Int), .int .u8 (a 3 : Int)]) (.agg #[.int .u8 (b 0 : Int), .int .u8 (b 1 : Int), .int .u8 (b 2 : Int), .int .u8 (b 3 : Int)])) w =
    .ok (a 0 == b 0 && a 1 == b 1 && a 2 == b 2 && a 3 == b 3) w := by
  obtain ⟨i, hi⟩ : ∃ i, Tryd.prog.info? 5 = some i := by
    have h : (Tryd.prog.info? 5).isSome = true := by kernel_rfl
    exact Option.isSome_iff_exists.1 h
  rw [run_equalIn_array (P := Tryd.prog) w (d + 1) _ _ Tryd.underlying42 hi]
  have kc : Tryd.prog.cellsOf 5 = 1 := by kernel_rfl
  have h8 : Tryd.prog.underlying 5 = some (.int .u8) := Tryd.underlying5
  rw [kc, show List.range 4 = [0, 1, 2, 3] from rfl]
  have hp : ∀ (c : Nat → Nat) (k : Nat), k < 4 → ∀ w, Sem.run Tryd.prog (part 5 #[.int .u8 (c 0 : Int), .int .u8 (c 1 : Int), .int .u8 (c 2 : Int), .int .u8 (c 3 : Int)] (k * 1)) w = .ok (.int .u8 (c k : Int)) w := by
    intro c k hk w
    rcases (show k = 0 ∨ k = 1 ∨ k = 2 ∨ k = 3 by omega) with rfl | rfl | rfl | rfl <;> kernel_rfl
  have step : ∀ (k : Nat), k < 4 → ∀ is w, Sem.run Tryd.prog (Op.eqItems (d + 1) 5 1 #[.int .u8 (a 0 : Int), .int .u8 (a 1 : Int), .int .u8 (a 2 : Int), .int .u8 (a 3 : Int)] #[.int .u8 (b 0 : Int), .int .u8 (b 1 : Int), .int .u8 (b 2 : Int), .int .u8 (b 3 : Int)] (k :: is)) w =
      if (a k == b k) = true then Sem.run Tryd.prog (Op.eqItems (d + 1) 5 1 #[.int .u8 (a 0 : Int), .int .u8 (a 1 : Int), .int .u8 (a 2 : Int), .int .u8 (a 3 : Int)] #[.int .u8 (b 0 : Int), .int .u8 (b 1 : Int), .int .u8 (b 2 : Int), .int .u8 (b 3 : Int)] is) w else .ok false w := by
    intro k hk is w
    have he := run_equalIn_int (P := Tryd.prog) w d 5 .u8 .u8 (a k : Int) (b k : Int) h8
    rw [beq_cast] at he
    rw [Op.eqItems, Sem.run_bind, hp a k hk, Result.andThen_ok, Sem.run_bind, hp b k hk, Result.andThen_ok, Sem.run_bind, he, Result.andThen_ok]
    cases a k == b k
    · simp
    · simp
  have last : ∀ w, Sem.run Tryd.prog (Op.eqItems (d + 1) 5 1 #[.int .u8 (a 0 : Int), .int .u8 (a 1 : Int), .int .u8 (a 2 : Int), .int .u8 (a 3 : Int)] #[.int .u8 (b 0 : Int), .int .u8 (b 1 : Int), .int .u8 (b 2 : Int), .int .u8 (b 3 : Int)] []) w = .ok true w := fun w => by simp [Op.eqItems]
  rw [step 0 (by omega), step 1 (by omega), step 2 (by omega), step 3 (by omega), last]
  cases a 0 == b 0 <;> cases a 1 == b 1 <;> cases a 2 == b 2 <;> cases a 3 == b 3 <;> rfl
theorem eq_two14 (d : Nat) (a b : Nat → Nat) (w : World) : Sem.run Tryd.prog (Op.equalIn (d + 2) 43 (.agg #[.int .u8 (a 0 : Int), .int .u8 (a 1 : Int)]) (.agg #[.int .u8 (b 0 : Int), .int .u8 (b 1 : Int)])) w =
    .ok (a 0 == b 0 && a 1 == b 1) w := by
  obtain ⟨i, hi⟩ : ∃ i, Tryd.prog.info? 5 = some i := by
    have h : (Tryd.prog.info? 5).isSome = true := by kernel_rfl
    exact Option.isSome_iff_exists.1 h
  rw [run_equalIn_array (P := Tryd.prog) w (d + 1) _ _ Tryd.underlying43 hi]
  have kc : Tryd.prog.cellsOf 5 = 1 := by kernel_rfl
  have h8 : Tryd.prog.underlying 5 = some (.int .u8) := Tryd.underlying5
  rw [kc, show List.range 2 = [0, 1] from rfl]
  have hp : ∀ (c : Nat → Nat) (k : Nat), k < 2 → ∀ w, Sem.run Tryd.prog (part 5 #[.int .u8 (c 0 : Int), .int .u8 (c 1 : Int)] (k * 1)) w = .ok (.int .u8 (c k : Int)) w := by
    intro c k hk w
    rcases (show k = 0 ∨ k = 1 by omega) with rfl | rfl <;> kernel_rfl
  have step : ∀ (k : Nat), k < 2 → ∀ is w, Sem.run Tryd.prog (Op.eqItems (d + 1) 5 1 #[.int .u8 (a 0 : Int), .int .u8 (a 1 : Int)] #[.int .u8 (b 0 : Int), .int .u8 (b 1 : Int)] (k :: is)) w =
      if (a k == b k) = true then Sem.run Tryd.prog (Op.eqItems (d + 1) 5 1 #[.int .u8 (a 0 : Int), .int .u8 (a 1 : Int)] #[.int .u8 (b 0 : Int), .int .u8 (b 1 : Int)] is) w else .ok false w := by
    intro k hk is w
    have he := run_equalIn_int (P := Tryd.prog) w d 5 .u8 .u8 (a k : Int) (b k : Int) h8
    rw [beq_cast] at he
    rw [Op.eqItems, Sem.run_bind, hp a k hk, Result.andThen_ok, Sem.run_bind, hp b k hk, Result.andThen_ok, Sem.run_bind, he, Result.andThen_ok]
    cases a k == b k
    · simp
    · simp
  have last : ∀ w, Sem.run Tryd.prog (Op.eqItems (d + 1) 5 1 #[.int .u8 (a 0 : Int), .int .u8 (a 1 : Int)] #[.int .u8 (b 0 : Int), .int .u8 (b 1 : Int)] []) w = .ok true w := fun w => by simp [Op.eqItems]
  rw [step 0 (by omega), step 1 (by omega), last]
  cases a 0 == b 0 <;> cases a 1 == b 1 <;> rfl
theorem eqFields_step {P : Program} (d : Nat) (xs ys : Array Value) (f : Field) (fs : List Field) (w : World) {a b : Value} {r : Bool} (hn : f.name ≠ "_") (ha : ∀ w, Sem.run P (part f.type xs f.offset) w = .ok a w) (hb : ∀ w, Sem.run P (part f.type ys f.offset) w = .ok b w) (hr : ∀ w, Sem.run P (Op.equalIn d f.type a b) w = .ok r w) :
    Sem.run P (Op.eqFields d xs ys (f :: fs)) w = if r = true then Sem.run P (Op.eqFields d xs ys fs) w else .ok false w := by
  rw [Op.eqFields, if_pos hn, Sem.run_bind, ha, Result.andThen_ok, Sem.run_bind, hb, Result.andThen_ok, Sem.run_bind, hr, Result.andThen_ok]
  cases r
  · simp
  · simp
set_option maxRecDepth 100000 in
theorem eq_state (s t : St) (w : World) : Sem.run Tryd.prog (Op.equalIn 10000 45 (.agg s.cells) (.agg t.cells)) w = .ok (s.same t) w := by
  rw [run_equalIn_struct (P := Tryd.prog) w 9999 _ _ _ (by kernel_rfl) (by kernel_rfl)]
  have hU := Tryd.underlying45
  simp only [Program.fieldsOf, hU]
  rw [eqFields_step 9999 _ _ _ _ w (by decide) (fun w => by kernel_rfl) (fun w => by kernel_rfl) (fun w => eq_deal14 9997 s.h t.h w)]
  rw [eqFields_step 9999 _ _ _ _ w (by decide) (fun w => by kernel_rfl) (fun w => by kernel_rfl) (fun w => eq_deal14 9997 s.pn t.pn w)]
  rw [eqFields_step 9999 _ _ _ _ w (by decide) (fun w => by kernel_rfl) (fun w => by kernel_rfl) (fun w => (run_equalIn_int (P := Tryd.prog) w 9998 5 .u8 .u8 (s.tm : Int) (t.tm : Int) Tryd.underlying5).trans (by rw [beq_cast]))]
  rw [eqFields_step 9999 _ _ _ _ w (by decide) (fun w => by kernel_rfl) (fun w => by kernel_rfl) (fun w => (run_equalIn_int (P := Tryd.prog) w 9998 5 .u8 .u8 (s.dc : Int) (t.dc : Int) Tryd.underlying5).trans (by rw [beq_cast]))]
  rw [eqFields_step 9999 _ _ _ _ w (by decide) (fun w => by kernel_rfl) (fun w => by kernel_rfl) (fun w => (run_equalIn_int (P := Tryd.prog) w 9998 5 .u8 .u8 (s.ld : Int) (t.ld : Int) Tryd.underlying5).trans (by rw [beq_cast]))]
  rw [eqFields_step 9999 _ _ _ _ w (by decide) (fun w => by kernel_rfl) (fun w => by kernel_rfl) (fun w => (run_equalIn_int (P := Tryd.prog) w 9998 5 .u8 .u8 (s.ct : Int) (t.ct : Int) Tryd.underlying5).trans (by rw [beq_cast]))]
  rw [eqFields_step 9999 _ _ _ _ w (by decide) (fun w => by kernel_rfl) (fun w => by kernel_rfl) (fun w => eq_four14 9997 s.cs t.cs w)]
  rw [eqFields_step 9999 _ _ _ _ w (by decide) (fun w => by kernel_rfl) (fun w => by kernel_rfl) (fun w => (run_equalIn_int (P := Tryd.prog) w 9998 5 .u8 .u8 (s.seat : Int) (t.seat : Int) Tryd.underlying5).trans (by rw [beq_cast]))]
  rw [eqFields_step 9999 _ _ _ _ w (by decide) (fun w => by kernel_rfl) (fun w => by kernel_rfl) (fun w => (run_equalIn_int (P := Tryd.prog) w 9998 5 .u8 .u8 (s.card : Int) (t.card : Int) Tryd.underlying5).trans (by rw [beq_cast]))]
  rw [eqFields_step 9999 _ _ _ _ w (by decide) (fun w => by kernel_rfl) (fun w => by kernel_rfl) (fun w => run_equalIn_bool' (P := Tryd.prog) w 9998 4 s.pend t.pend Tryd.underlying4)]
  rw [eqFields_step 9999 _ _ _ _ w (by decide) (fun w => by kernel_rfl) (fun w => by kernel_rfl) (fun w => run_equalIn_bool' (P := Tryd.prog) w 9998 4 s.opn t.opn Tryd.underlying4)]
  rw [eqFields_step 9999 _ _ _ _ w (by decide) (fun w => by kernel_rfl) (fun w => by kernel_rfl) (fun w => (run_equalIn_int (P := Tryd.prog) w 9998 5 .u8 .u8 (s.must : Int) (t.must : Int) Tryd.underlying5).trans (by rw [beq_cast]))]
  rw [eqFields_step 9999 _ _ _ _ w (by decide) (fun w => by kernel_rfl) (fun w => by kernel_rfl) (fun w => (run_equalIn_int (P := Tryd.prog) w 9998 5 .u8 .u8 (s.nt : Int) (t.nt : Int) Tryd.underlying5).trans (by rw [beq_cast]))]
  rw [eqFields_step 9999 _ _ _ _ w (by decide) (fun w => by kernel_rfl) (fun w => by kernel_rfl) (fun w => eq_two14 9997 s.w t.w w)]
  have last : ∀ w, Sem.run Tryd.prog (Op.eqFields 9999 s.cells t.cells []) w = .ok true w := fun w => by simp [Op.eqFields]
  rw [last]
  unfold St.same
  cases (s.h 0 == t.h 0 && s.h 1 == t.h 1 && s.h 2 == t.h 2 && s.h 3 == t.h 3)
  · rfl
  cases (s.pn 0 == t.pn 0 && s.pn 1 == t.pn 1 && s.pn 2 == t.pn 2 && s.pn 3 == t.pn 3)
  · rfl
  cases (s.tm == t.tm)
  · rfl
  cases (s.dc == t.dc)
  · rfl
  cases (s.ld == t.ld)
  · rfl
  cases (s.ct == t.ct)
  · rfl
  cases (s.cs 0 == t.cs 0 && s.cs 1 == t.cs 1 && s.cs 2 == t.cs 2 && s.cs 3 == t.cs 3)
  · rfl
  cases (s.seat == t.seat)
  · rfl
  cases (s.card == t.card)
  · rfl
  cases (s.pend == t.pend)
  · rfl
  cases (s.opn == t.opn)
  · rfl
  cases (s.must == t.must)
  · rfl
  cases (s.nt == t.nt)
  · rfl
  cases (s.w 0 == t.w 0 && s.w 1 == t.w 1) <;> rfl
end Go.Proofs.YtgnlmodaekfhfaaDoor
