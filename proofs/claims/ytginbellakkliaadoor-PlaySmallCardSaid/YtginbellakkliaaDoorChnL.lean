/- Regions that draw their order: fixed values, and two chains of operations that change the world. No program in sight. -/
import Derived.Test.YtginbellakkliaaDoorLdW
import Derived.Test.YtginbellakkliaaDoorMRel
namespace Go.Proofs.YtginbellakkliaaDoor
open Go.RowKit Go.Sort

/-- what has been done: vs are the values of the first chain so far, us those of the second; S says how the world is then; the other operations have fixed values -/
structure ChX (vals : List Value) (c1 c2 : List Nat) (S : List Value → List Value → World → Prop) (f : Done) (W : World) (vs us : List Value) : Prop where
  a1 : ∀ (j k : Nat), c1[j]? = some k → f k = vs[j]?
  a2 : ∀ (j k : Nat), c2[j]? = some k → f k = us[j]?
  l1 : vs.length ≤ c1.length
  l2 : us.length ≤ c2.length
  st : S vs us W
  val : ∀ (j : Nat) (v x : Value), j ∉ c1 → j ∉ c2 → f j = some v → vals[j]? = some x → v = x
def ChF (vals : List Value) (c1 c2 : List Nat) (S : List Value → List Value → World → Prop) (f : Done) (W : World) : Prop := ∃ vs us, ChX vals c1 c2 S f W vs us
variable {vals : List Value} {c1 c2 : List Nat} {S : List Value → List Value → World → Prop} {f : Done} {W W' : World} {vs us : List Value}
theorem ChF.start (h : S [] [] W) : ChF vals c1 c2 S (fun _ => none) W := ⟨[], [], fun _ _ _ => rfl, fun _ _ _ => rfl, Nat.zero_le _, Nat.zero_le _, h, fun _ _ _ _ _ h => by cases h⟩
theorem ChX.vset (h : ChX vals c1 c2 S f W vs us) (i : Nat) (v : Value) (hv : i ∈ c1 ∨ i ∈ c2 ∨ vals[i]? = some v) : ∀ (j : Nat) (u x : Value), j ∉ c1 → j ∉ c2 → (f.set i v) j = some u → vals[j]? = some x → u = x := by
  intro j u x h1 h2 hj hx
  by_cases e : j = i
  · subst e
    rw [Done.same] at hj
    rcases hv with e | e | hv
    · exact absurd e h1
    · exact absurd e h2
    · rw [hv] at hx
      exact (Option.some.inj hj).symm.trans (Option.some.inj hx)
  · rw [Done.other f v e] at hj
    exact h.val j u x h1 h2 hj hx
/-- an operation of fixed value -/
theorem ChX.pure (h : ChX vals c1 c2 S f W vs us) (i : Nat) (v : Value) (h1 : i ∉ c1) (h2 : i ∉ c2) (hv : vals[i]? = some v) (hS : S vs us W') : ChF vals c1 c2 S (f.set i v) W' := by
  refine ⟨vs, us, fun j k hk => ?_, fun j k hk => ?_, h.l1, h.l2, hS, h.vset i v (.inr (.inr hv))⟩
  · rw [Done.other f v (fun e => h1 (by rw [← e]; exact List.mem_of_getElem? hk))]; exact h.a1 j k hk
  · rw [Done.other f v (fun e => h2 (by rw [← e]; exact List.mem_of_getElem? hk))]; exact h.a2 j k hk
/-- the next operation of the first chain -/
theorem ChX.step1 (h : ChX vals c1 c2 S f W vs us) (i : Nat) (v : Value) (hi : c1[vs.length]? = some i) (hn : c1.Nodup) (h2 : i ∉ c2) (hS : S (vs ++ [v]) us W') : ChF vals c1 c2 S (f.set i v) W' := by
  have hlt : vs.length < c1.length := (List.getElem?_eq_some_iff.1 hi).1
  refine ⟨vs ++ [v], us, fun j k hk => ?_, fun j k hk => ?_, by rw [List.length_append]; exact hlt, h.l2, hS, h.vset i v (.inl (List.mem_of_getElem? hi))⟩
  · by_cases e : j = vs.length
    · subst e
      obtain rfl : k = i := Option.some.inj (hk.symm.trans hi)
      rw [Done.same, List.getElem?_append_right (Nat.le_refl _), Nat.sub_self]; rfl
    · have hki : k ≠ i := fun e2 => e (by
        subst e2
        exact (List.getElem?_inj (List.getElem?_eq_some_iff.1 hk).1 hn).1 (hk.trans hi.symm))
      rw [Done.other f v hki, h.a1 j k hk]
      rcases Nat.lt_or_ge j vs.length with hj | hj
      · rw [List.getElem?_append_left hj]
      · rw [List.getElem?_eq_none hj, List.getElem?_eq_none (by rw [List.length_append]; simp; omega)]
  · rw [Done.other f v (fun e => h2 (by rw [← e]; exact List.mem_of_getElem? hk))]; exact h.a2 j k hk
/-- the next operation of the second chain -/
theorem ChX.step2 (h : ChX vals c1 c2 S f W vs us) (i : Nat) (v : Value) (hi : c2[us.length]? = some i) (hn : c2.Nodup) (h1 : i ∉ c1) (hS : S vs (us ++ [v]) W') : ChF vals c1 c2 S (f.set i v) W' := by
  have hlt : us.length < c2.length := (List.getElem?_eq_some_iff.1 hi).1
  refine ⟨vs, us ++ [v], fun j k hk => ?_, fun j k hk => ?_, h.l1, by rw [List.length_append]; exact hlt, hS, h.vset i v (.inr (.inl (List.mem_of_getElem? hi)))⟩
  · rw [Done.other f v (fun e => h1 (by rw [← e]; exact List.mem_of_getElem? hk))]; exact h.a1 j k hk
  · by_cases e : j = us.length
    · subst e
      obtain rfl : k = i := Option.some.inj (hk.symm.trans hi)
      rw [Done.same, List.getElem?_append_right (Nat.le_refl _), Nat.sub_self]; rfl
    · have hki : k ≠ i := fun e2 => e (by
        subst e2
        exact (List.getElem?_inj (List.getElem?_eq_some_iff.1 hk).1 hn).1 (hk.trans hi.symm))
      rw [Done.other f v hki, h.a2 j k hk]
      rcases Nat.lt_or_ge j us.length with hj | hj
      · rw [List.getElem?_append_left hj]
      · rw [List.getElem?_eq_none hj, List.getElem?_eq_none (by rw [List.length_append]; simp; omega)]
theorem ChX.get1 (h : ChX vals c1 c2 S f W vs us) (j i : Nat) {v : Value} (hj : c1[j]? = some i) (hf : f i = some v) : vs[j]? = some v := (h.a1 j i hj).symm.trans hf
theorem ChX.get2 (h : ChX vals c1 c2 S f W vs us) (j i : Nat) {v : Value} (hj : c2[j]? = some i) (hf : f i = some v) : us[j]? = some v := (h.a2 j i hj).symm.trans hf
theorem ChX.le1 (h : ChX vals c1 c2 S f W vs us) (j i : Nat) (hj : c1[j]? = some i) (hf : f i = none) : vs.length ≤ j := List.getElem?_eq_none_iff.1 ((h.a1 j i hj).symm.trans hf)
theorem ChX.le2 (h : ChX vals c1 c2 S f W vs us) (j i : Nat) (hj : c2[j]? = some i) (hf : f i = none) : us.length ≤ j := List.getElem?_eq_none_iff.1 ((h.a2 j i hj).symm.trans hf)
theorem list0 {l : List Value} (h : l.length ≤ 0) : l = [] := List.length_eq_zero_iff.1 (by omega)
theorem list1 {l : List Value} {x : Value} (h : l.length ≤ 1) (hx : l[0]? = some x) : l = [x] := by
  match l, h, hx with
  | [y], _, hx => rw [Option.some.inj (show some y = some x from hx)]
theorem list2 {l : List Value} {x : Value} (h : l.length ≤ 2) (hx : l[1]? = some x) : ∃ y, l = [y, x] := by
  match l, h, hx with
  | [y, z], _, hx => exact ⟨y, by rw [Option.some.inj (show some z = some x from hx)]⟩
theorem list3 {l : List Value} {x : Value} (h : l.length ≤ 3) (hx : l[2]? = some x) : ∃ y z, l = [y, z, x] := by
  match l, h, hx with
  | [y, z, u], _, hx => exact ⟨y, z, by rw [Option.some.inj (show some u = some x from hx)]⟩
theorem list4 {l : List Value} {x : Value} (h : l.length ≤ 4) (hx : l[3]? = some x) : ∃ y z u, l = [y, z, u, x] := by
  match l, h, hx with
  | [y, z, u, v], _, hx => exact ⟨y, z, u, by rw [Option.some.inj (show some v = some x from hx)]⟩
theorem list5 {l : List Value} {x : Value} (h : l.length ≤ 5) (hx : l[4]? = some x) : ∃ y z u v, l = [y, z, u, v, x] := by
  match l, h, hx with
  | [y, z, u, v, t], _, hx => exact ⟨y, z, u, v, by rw [Option.some.inj (show some t = some x from hx)]⟩
end Go.Proofs.YtginbellakkliaaDoor
