/- The map of revoke.count: from pairs of bytes to bool. -/
import Derived.Test.YtdlnilebnobllaaRevF
import Derived.Laws.StructEq
namespace Go.Proofs.Ytdlnilebnobllaa
open Go.RowKit

theorem key_ok (e : Bool) (a b : Int) (w : World) : (Instr.checkKey e 10000 116 (.agg #[.int .u8 a, .int .u8 b])).run Try.prog w = .ok () w := by
  cases e <;> kernel_rfl
theorem key_now (a b : Int) (w : World) (es : List MapEntry) : ((do Instr.findKey 116 (.agg #[.int .u8 a, .int .u8 b]) es) : Sem _).run Try.prog w = (Instr.findAsking 116 (.agg #[.int .u8 a, .int .u8 b]) es).run Try.prog w := by
  have h : Instr.findNow (.array 2 5) (.agg #[.int .u8 a, .int .u8 b]) es 0 = none ∨ es = [] := by
    cases es with
    | nil => exact .inr rfl
    | cons e es => left; simp [Instr.findNow, Instr.sameNow]
  rcases h with h | rfl
  · simp only [Instr.findKey, Sem.run_bind, run_underlying Try.underlying116, Result.andThen_ok, h]
  · simp only [Instr.findKey, Sem.run_bind, run_underlying Try.underlying116, Result.andThen_ok, Instr.findNow]
    rfl
theorem key_eq (a b c d : Int) (w : World) : (Op.equal 116 (.agg #[.int .u8 a, .int .u8 b]) (.agg #[.int .u8 c, .int .u8 d])).run Try.prog w = .ok (a == c && b == d) w := by
  have e1 : (Op.equalIn 9999 5 (.int .u8 a) (.int .u8 c)).run Try.prog w = .ok (a == c) w := run_equalIn_int w _ _ _ _ _ _ Try.underlying5
  have e2 : (Op.equalIn 9999 5 (.int .u8 b) (.int .u8 d)).run Try.prog w = .ok (b == d) w := run_equalIn_int w _ _ _ _ _ _ Try.underlying5
  have p1 : (part 5 #[.int .u8 a, .int .u8 b] (0 * 1)).run Try.prog w = .ok (.int .u8 a) w := by kernel_rfl
  have p2 : (part 5 #[.int .u8 a, .int .u8 b] (1 * 1)).run Try.prog w = .ok (.int .u8 b) w := by kernel_rfl
  have p3 : (part 5 #[.int .u8 c, .int .u8 d] (0 * 1)).run Try.prog w = .ok (.int .u8 c) w := by kernel_rfl
  have p4 : (part 5 #[.int .u8 c, .int .u8 d] (1 * 1)).run Try.prog w = .ok (.int .u8 d) w := by kernel_rfl
  have s1 : (sizeOf 5).run Try.prog w = .ok 1 w := by kernel_rfl
  show (Op.equalIn (9999 + 1) 116 _ _).run Try.prog w = _
  rw [Op.equalIn]
  simp only [Sem.run_bind, run_underlying Try.underlying116, Result.andThen_ok, s1]
  simp only [Std.Legacy.Range.forIn_eq_forIn_range', Std.Legacy.Range.size]
  simp [List.range', p1, p2, p3, p4, e1, e2]
  by_cases h1 : a = c <;> by_cases h2 : b = d <;> simp [h1, h2]

/-- a key's value -/
abbrev keyV (k : Nat × Nat) : Value := .agg #[.int .u8 (k.1 : Int), .int .u8 (k.2 : Int)]
/-- block B is a map with just these keys, true at each -/
def MapP (W : World) (B : Nat) (ks : List (Nat × Nat)) : Prop := ∃ es clock, W.heap[B]? = some (.map es clock) ∧ es.toList.map (fun e => (e.key, e.val)) = ks.map fun k => (keyV k, Value.bool true)
theorem MapP.lt {W : World} {B : Nat} {ks : List (Nat × Nat)} (h : MapP W B ks) : B < W.heap.size := by
  obtain ⟨es, c, h, _⟩ := h
  exact (Array.getElem?_eq_some_iff.1 h).1
theorem MapP.same {W W' : World} {B : Nat} {ks : List (Nat × Nat)} (h : MapP W B ks) (e : W'.heap[B]? = W.heap[B]?) : MapP W' B ks := by
  obtain ⟨es, c, h, h2⟩ := h
  exact ⟨es, c, e.trans h, h2⟩
theorem MapP.new (W : World) : MapP (W.alloc (.map #[] 0)) W.heap.size [] := ⟨#[], 0, World.alloc_heap_new W _, rfl⟩
theorem ask_map (s u : Nat) (w : World) : ∀ (es : List MapEntry) (ks : List (Nat × Nat)) (i : Nat), es.map (fun e => (e.key, e.val)) = ks.map (fun k => (keyV k, Value.bool true)) →
    ∃ o, (Instr.findAsking 116 (keyV (s, u)) es i).run Try.prog w = .ok o w ∧ ((s, u) ∈ ks → ∃ j, o = some (j, .bool true)) ∧ ((s, u) ∉ ks → o = none)
  | [], ks, i, h => by
    have hk : ks = [] := by simpa using h.symm
    subst hk
    exact ⟨none, rfl, fun h => by simp at h, fun _ => rfl⟩
  | e :: es, [], i, h => by simp at h
  | e :: es, k :: ks, i, h => by
    simp only [List.map_cons, List.cons.injEq, Prod.mk.injEq] at h
    obtain ⟨⟨h1, h2⟩, h3⟩ := h
    simp only [Instr.findAsking, Sem.run_bind, h1]
    rw [key_eq]
    simp only [Result.andThen_ok]
    by_cases hk : (s, u) = k
    · subst hk
      simp only [beq_self_eq_true, Bool.and_self, if_true]
      exact ⟨_, rfl, fun _ => ⟨i, by rw [h2]⟩, fun h => absurd (by simp) h⟩
    · have hb : (((s : Int) == (k.1 : Int)) && ((u : Int) == (k.2 : Int))) = false := by
        rw [Bool.and_eq_false_iff, beq_eq_false_iff_ne, beq_eq_false_iff_ne]
        by_cases h4 : s = k.1
        · right; intro h5; exact hk (Prod.ext h4 (by show u = k.2; omega))
        · left; omega
      rw [hb]
      obtain ⟨o, h4, h5, h6⟩ := ask_map s u w es ks (i + 1) h3
      refine ⟨o, by simpa using h4, fun h => ?_, fun h => ?_⟩
      · rcases List.mem_cons.1 h with h | h
        · exact absurd h hk
        · exact h5 h
      · exact h6 (fun h' => h (List.mem_cons_of_mem _ h'))
theorem map_look {W : World} {B : Nat} {ks : List (Nat × Nat)} (h : MapP W B ks) (s u : Nat) : (Instr.lookup 115 (.map (some B)) (keyV (s, u)) false).run Try.prog W = .ok (.bool (decide ((s, u) ∈ ks))) W := by
  obtain ⟨es, c, hb, he⟩ := h
  obtain ⟨o, h1, h2, h3⟩ := ask_map s u W es.toList ks 0 he
  simp only [Instr.lookup, Sem.run_bind, run_underlying Try.underlying115, Result.andThen_ok]
  have hg : (getObj B).run Try.prog W = .ok (.map es c) W := by simp [getObj, Sem.run, hb]
  have hf : (Instr.findKey 116 (keyV (s, u)) es.toList).run Try.prog W = .ok o W := (key_now _ _ _ _).trans h1
  have hz : (zeroValue 4).run Try.prog W = .ok (.bool false) W := by kernel_rfl
  simp only [hg, Result.andThen_ok, Sem.run_bind, Sem.run_pure, key_ok, hf]
  by_cases hm : (s, u) ∈ ks
  · obtain ⟨j, rfl⟩ := h2 hm
    simp [hm]
  · rw [h3 hm]
    simp [hm, hz]
theorem map_put {W : World} {B : Nat} {ks : List (Nat × Nat)} (h : MapP W B ks) (s u : Nat) (hn : (s, u) ∉ ks) : ∃ o, (Instr.mapUpdate 115 (.map (some B)) (keyV (s, u)) (.bool true)).run Try.prog W = .ok () (W.putObj B o) ∧ MapP (W.putObj B o) B (ks ++ [(s, u)]) := by
  obtain ⟨es, c, hb, he⟩ := h
  obtain ⟨o, h1, h2, h3⟩ := ask_map s u W es.toList ks 0 he
  have ho := h3 hn
  subst ho
  simp only [Instr.mapUpdate, Sem.run_bind, run_underlying Try.underlying115, Result.andThen_ok]
  have hg : (getObj B).run Try.prog W = .ok (.map es c) W := by simp [getObj, Sem.run, hb]
  have hf : (Instr.findKey 116 (keyV (s, u)) es.toList).run Try.prog W = .ok none W := (key_now _ _ _ _).trans h1
  simp only [hg, Result.andThen_ok, Sem.run_bind, key_ok, hf]
  refine ⟨.map (es.push { key := keyV (s, u), val := .bool true, born := c }) (c + 1), by simp [setObj, Sem.run, hb, World.putObj], es.push { key := keyV (s, u), val := .bool true, born := c }, c + 1, World.putObj_heap_same (Array.getElem?_eq_some_iff.1 hb).1, ?_⟩
  simp [he]
theorem map_len {W : World} {B : Nat} {ks : List (Nat × Nat)} (h : MapP W B ks) : (Builtin.len_ #[115] 3 #[.map (some B)]).run Try.prog W = .ok (.int .i64 (ks.length : Int)) W := by
  obtain ⟨es, c, hb, he⟩ := h
  have hl : es.size = ks.length := by have := congrArg List.length he; simpa using this
  have hg : (getObj B).run Try.prog W = .ok (.map es c) W := by simp [getObj, Sem.run, hb]
  simp [Builtin.len_, Sem.run_bind, run_underlying Try.underlying115, hg, hl]
  rfl
end Go.Proofs.Ytdlnilebnobllaa
