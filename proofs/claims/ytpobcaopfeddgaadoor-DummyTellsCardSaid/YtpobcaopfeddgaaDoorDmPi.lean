/- Regions with one call, a slice of one element, an append and a store; own slices of choices. -/
import Derived.Test.YtpobcaopfeddgaaDoorDmRh
import Derived.Test.YtpobcaopfeddgaaDoorDmCo
import Derived.Test.YtpobcaopfeddgaaDoorApl
namespace Go.Proofs.YtpobcaopfeddgaaDoor
open Go.RowKit Go.Sort Go.Shelf Go.Maps Go.WideMaps

/-- a region in which operation 6 calls, 8 makes a slice, 9 appends it, 10 stores what comes out -/
structure FQ (vals : List Value) (A B : World → Prop) (C D : Value → World → Prop) (E : World → Prop) (f : Done) (W : World) : Prop where
  val : ∀ j v x, j ≠ 8 → j ≠ 9 → f j = some v → vals[j]? = some x → v = x
  s0 : f 6 = none → f 8 = none ∧ f 9 = none ∧ f 10 = none ∧ A W
  s1 : ∀ x, f 6 = some x → f 8 = none → f 9 = none ∧ f 10 = none ∧ B W
  s2 : ∀ x, f 8 = some x → f 9 = none → f 10 = none ∧ C x W
  s3 : ∀ y, f 9 = some y → f 10 = none → D y W
  s4 : ∀ u, f 10 = some u → E W
variable {vals : List Value} {A B E : World → Prop} {C D : Value → World → Prop} {f : Done} {W W' : World}
theorem FQ.start (h : A W) : FQ vals A B C D E (fun _ => none) W := ⟨fun _ _ _ _ _ h => (by cases h), fun _ => ⟨rfl, rfl, rfl, h⟩, (fun _ h => by cases h), (fun _ h => by cases h), (fun _ h => by cases h), fun _ h => by cases h⟩
theorem FQ.look (h : FQ vals A B C D E f W) (h10 : f 10 = none) : A W ∨ B W ∨ (∃ x, C x W) ∨ ∃ y, D y W := by
  rcases h6 : f 6 with _ | x
  · exact .inl (h.s0 h6).2.2.2
  · rcases h8 : f 8 with _ | y
    · exact .inr (.inl (h.s1 x h6 h8).2.2)
    · rcases h9 : f 9 with _ | z
      · exact .inr (.inr (.inl ⟨y, (h.s2 y h8 h9).2⟩))
      · exact .inr (.inr (.inr ⟨z, h.s3 z h9 h10⟩))
theorem FQ.vset (h : FQ vals A B C D E f W) (i : Nat) (v : Value) (hv : i = 8 ∨ i = 9 ∨ vals[i]? = some v) : ∀ j u x, j ≠ 8 → j ≠ 9 → (f.set i v) j = some u → vals[j]? = some x → u = x := by
  intro j u x h8 h9 hj hx
  by_cases e : j = i
  · subst e
    rw [Done.same] at hj
    rcases hv with e | e | hv
    · exact absurd e h8
    · exact absurd e h9
    · rw [hv] at hx
      exact (Option.some.inj hj).symm.trans (Option.some.inj hx)
  · rw [Done.other f v e] at hj
    exact h.val j u x h8 h9 hj hx
theorem FQ.pure (h : FQ vals A B C D E f W) (i : Nat) (v : Value) (hi : i ≠ 6 ∧ i ≠ 8 ∧ i ≠ 9 ∧ i ≠ 10) (hv : vals[i]? = some v) : FQ vals A B C D E (f.set i v) W := by
  refine ⟨h.vset i v (.inr (.inr hv)), ?_, ?_, ?_, ?_, ?_⟩
  all_goals
    simp only [Done.other f v (Ne.symm hi.1), Done.other f v (Ne.symm hi.2.1), Done.other f v (Ne.symm hi.2.2.1), Done.other f v (Ne.symm hi.2.2.2)]
  · exact h.s0
  · exact h.s1
  · exact h.s2
  · exact h.s3
  · exact h.s4
theorem FQ.call (h : FQ vals A B C D E f W) (v : Value) (hv : vals[6]? = some v) (hf : f 6 = none) (hB : B W') : FQ vals A B C D E (f.set 6 v) W' := by
  obtain ⟨h8, h9, h10, -⟩ := h.s0 hf
  refine ⟨h.vset 6 v (.inr (.inr hv)), ?_, ?_, ?_, ?_, ?_⟩
  all_goals simp only [Done.same, Done.other f v (show 8 ≠ 6 by decide), Done.other f v (show 9 ≠ 6 by decide), Done.other f v (show 10 ≠ 6 by decide), h8, h9, h10]
  · intro h; cases h
  · exact fun _ _ _ => ⟨trivial, trivial, hB⟩
  · intro _ h; cases h
  · intro _ h; cases h
  · intro _ h; cases h
theorem FQ.made (h : FQ vals A B C D E f W) (v : Value) {x : Value} (h6 : f 6 = some x) (hf : f 8 = none) (hC : C v W') : FQ vals A B C D E (f.set 8 v) W' := by
  obtain ⟨h9, h10, -⟩ := h.s1 x h6 hf
  refine ⟨h.vset 8 v (.inl rfl), ?_, ?_, ?_, ?_, ?_⟩
  all_goals simp only [Done.same, Done.other f v (show 6 ≠ 8 by decide), Done.other f v (show 9 ≠ 8 by decide), Done.other f v (show 10 ≠ 8 by decide), h6, h9, h10]
  · intro h; cases h
  · intro _ _ h; cases h
  · rintro y hy -
    exact ⟨trivial, Option.some.inj hy ▸ hC⟩
  · intro _ h; cases h
  · intro _ h; cases h
theorem FQ.app (h : FQ vals A B C D E f W) (v : Value) {x y : Value} (h6 : f 6 = some x) (h8 : f 8 = some y) (hf : f 9 = none) (hD : D v W') : FQ vals A B C D E (f.set 9 v) W' := by
  obtain ⟨h10, -⟩ := h.s2 y h8 hf
  refine ⟨h.vset 9 v (.inr (.inl rfl)), ?_, ?_, ?_, ?_, ?_⟩
  all_goals simp only [Done.same, Done.other f v (show 6 ≠ 9 by decide), Done.other f v (show 8 ≠ 9 by decide), Done.other f v (show 10 ≠ 9 by decide), h6, h8, h10]
  · intro h; cases h
  · intro _ _ h; cases h
  · intro _ _ h; cases h
  · rintro z hz -
    exact Option.some.inj hz ▸ hD
  · intro _ h; cases h
theorem FQ.store (h : FQ vals A B C D E f W) (v : Value) (hv : vals[10]? = some v) {x y z : Value} (h6 : f 6 = some x) (h8 : f 8 = some y) (h9 : f 9 = some z) (hE : E W') : FQ vals A B C D E (f.set 10 v) W' := by
  refine ⟨h.vset 10 v (.inr (.inr hv)), ?_, ?_, ?_, ?_, ?_⟩
  all_goals simp only [Done.same, Done.other f v (show 6 ≠ 10 by decide), Done.other f v (show 8 ≠ 10 by decide), Done.other f v (show 9 ≠ 10 by decide), h6, h8, h9]
  · intro h; cases h
  · intro _ _ h; cases h
  · intro _ _ h; cases h
  · intro _ _ h; cases h
  · exact fun _ _ => hE
/-- a slice of choices -/
def encC (x : Nat × Nat) : List Value := [.int .u8 (x.1 : Int), .int .i64 (x.2 : Int)]
abbrev OwnC (w : World) (base : Nat) (v : Value) (l : List (Nat × Nat)) : Prop := Owns encC 2 43 w base v l
theorem encC_len (x : Nat × Nat) : (encC x).length = 2 := rfl
theorem encC_one (x : Nat × Nat) : ∀ u ∈ encC x, u.oneCell' = true := by
  intro u hu
  simp only [encC, List.mem_cons, List.not_mem_nil, or_false] at hu
  rcases hu with rfl | rfl <;> rfl
theorem info_ch : (Tryd.prog.info? 43).map (fun i => (i.zero, i.size, i.bytes)) = some (some (.agg #[.int .u8 0, .int .i64 0]), 2, 16) := by kernel_rfl
theorem Owns.same {α : Type} {enc : α → List Value} {m : Nat} {T : TypeId} {w w' : World} {base : Nat} {v : Value} {l : List α} (h : Owns enc m T w base v l) (hs : ∀ g, base ≤ g → g < w.heap.size → w'.heap[g]? = w.heap[g]?) : Owns enc m T w' base v l := by
  refine ⟨h.1, h.2.1, ?_⟩
  rcases h.2.2 with h2 | ⟨g, cap, cur, h1, h2, h3, h4⟩
  · exact .inl h2
  · exact .inr ⟨g, cap, cur, h1, h2, (hs g h2 (Array.getElem?_eq_some_iff.1 h3).1).trans h3, h4⟩
theorem Owns.block {α : Type} {enc : α → List Value} {m : Nat} {T : TypeId} {w : World} {base : Nat} {v : Value} {l : List α} (h : Owns enc m T w base v l) {g : Nat} (hg : v.ownBlock = some g) : base ≤ g ∧ g < w.heap.size := by
  rcases h.form with ⟨e, -⟩ | ⟨g', cap, e, h1, h2, -⟩
  · rw [e] at hg; cases hg
  · rw [e] at hg
    obtain rfl : g' = g := by simpa [Value.ownBlock] using hg
    exact ⟨h1, h2⟩
/-- append of one choice, as an operation -/
theorem ok_appC {o : Oper} {ρ : Operand → Value} {w : World} {R : Value → World → Prop} (s x : Operand)
    (ho : o.op = .call { callee := .builtin .append, args := #[s, x], argTypes := #[37, 37] })
    (base : Nat) (u : Value) (l : List (Nat × Nat)) (y : Nat × Nat) (hs : ρ s = u) (hown : OwnC w base u l) (g : Nat) (hx : ρ x = .slice (some ⟨g, 0, none⟩) 1 1) (hy : Row w g 43 #[.int .u8 (y.1 : Int), .int .i64 (y.2 : Int)])
    (hl : l.length ≤ 1000) (hbase : base ≤ w.heap.size)
    (h : ∀ v' w', OwnC w' base v' (l ++ [y]) → w.grownBy w' u.ownBlock → R v' w') : OpOk Tryd.prog o ρ w R := by
  obtain ⟨i0, hi, hz0, hz1, hz2⟩ := info_parts info_ch
  obtain ⟨v', w', hr, h1, h3, h5, h4⟩ := run_append_own_at (P := Tryd.prog) (w := w) base 37 o.type 43 i0 _ 2 16 Tryd.underlying37 hi hz0 hz1 hz2 rfl (by decide) u l.length (l.flatMap encC) hown.2 ⟨g, 0, none⟩ 1 1 (encC y) rfl (fun j u hu => by
    have := hy.cell j
    unfold Addr.add
    have hj : j < 2 := (List.getElem?_eq_some_iff.1 hu).1
    rcases (show j = 0 ∨ j = 1 by omega) with rfl | rfl
    · exact this.trans hu
    · exact this.trans hu) (encC_one y) (by unfold maxLen; omega) (by omega) hbase
  refine ok_value (v := v') (w' := w') ?_ (h v' w' ⟨encC_len, ?_⟩ h3)
  · unfold execOp
    simp only [ho, resolve, invoke, builtin, Sem.run_bind, Sem.run_pure, Result.andThen_ok, List.map_toArray, List.map_cons, List.map_nil, hs, hx, hr]
  · rw [List.length_append, List.flatMap_append]
    simpa using h1
end Go.Proofs.YtpobcaopfeddgaaDoor
