/- RelyT, ChnL in one text. -/
import Derived.Test.YtgnlmodaekfhfaaDoorRelyS
import Derived.Test.YtgnlmodaekfhfaaDoorLdW

/- A region that draws its order and has guards, of which it is known which hold: one obligation for each operation that is done, over whatever has been done before. No program in sight. -/
namespace Go.Proofs.YtgnlmodaekfhfaaDoor
open Go.RowKit Go.Sort

section
variable {P : Program} {Q : Exit → Act → World → Prop}
/-- an operation that is passed over -/
def SkS (ops : List Oper) (F : Done → World → Prop) (i : Nat) (o : Oper) : Prop :=
  ∀ (f : Done) (w : World), F f w → f i = none → (∀ j ∈ waits ops i, (f j).isSome = true) → F (f.set i (keptOf o undef)) w
/-- what the guard of an operation says -/
def GdS (F : Done → World → Prop) (t : Bool) (o : Oper) : Prop :=
  match o.guard with
  | none => t = true
  | some (j, b) => ∀ f w v, F f w → f j = some v → v = .bool (if t then b else !b)
/-- guards are waited for, and write a slot -/
def gwaitB (ops : List Oper) : Bool :=
  (List.range ops.length).all fun i => match ops[i]? with
    | some o => (match o.guard with | none => true | some (j, _) => (waits ops i).contains j && (match ops[j]? with | some oj => oj.dst.isSome | none => false))
    | none => true
theorem gwaitB_get {ops : List Oper} (h : gwaitB ops = true) {i : Nat} {o : Oper} {j : Nat} {b : Bool} (ho : ops[i]? = some o) (hg : o.guard = some (j, b)) : j ∈ waits ops i ∧ ∃ oj d, ops[j]? = some oj ∧ oj.dst = some d := by
  unfold gwaitB at h
  rw [List.all_eq_true] at h
  have := h i (List.mem_range.2 (List.getElem?_eq_some_iff.1 ho).1)
  rw [ho] at this
  simp only [hg, Bool.and_eq_true, List.contains_iff_mem] at this
  refine ⟨this.1, ?_⟩
  cases hj : ops[j]? with
  | none => rw [hj] at this; exact absurd this.2 (by simp)
  | some oj =>
    rw [hj] at this
    simp only at this
    cases hd : oj.dst with
    | none => rw [hd] at this; exact absurd this.2 (by simp)
    | some d => exact ⟨oj, d, rfl, hd⟩
theorem wpAny_relyT {ops : List Oper} {a0 : Act} {F : Done → World → Prop} {tk : Nat → Bool} (hp : plainS ops = true) (hgb : gwaitB ops = true)
    (hsz : ∀ o ∈ ops, ∀ d, o.dst = some d → d < a0.tmps.size)
    (hop : ∀ i o, ops[i]? = some o → GdS F (tk i) o ∧ (if tk i = true then ObS P ops a0 F i o else SkS ops F i o))
    (hend : ∀ (vs : List Value) (w : World), vs.length = ops.length → F (fun i => vs[i]?) w → Q .normal (putAll ops vs a0) w) :
    ∀ (fuel : Nat) (listed : Array Bool) (a : Act) (f : Done) (w : World), todo ops listed ≤ fuel → InvS ops a0 F listed a f w → wpAny P .any ops.toArray Q fuel listed a w := by
  have hfin : ∀ (listed : Array Bool) (a : Act) (f : Done) (w : World), InvS ops a0 F listed a f w → Region.ready .any ops.toArray listed = [] → Q .normal a w := by
    intro listed a f w hI hr
    have hall := noneS_ready hp hI.size hr
    rw [hI.act hp]
    refine hend _ w (by simp [valsOf]) ?_
    have e : (fun i => (valsOf ops a)[i]?) = f := by
      funext i
      unfold valsOf
      rw [List.getElem?_map]
      cases ho : ops[i]? with
      | none =>
        have : ops.length ≤ i := by simpa using ho
        rw [hI.noneAt i (by rw [Array.getD_eq_getD_getElem?, Array.getElem?_eq_none (by rw [hI.size]; exact this)]; rfl)]; rfl
      | some o =>
        rw [hI.new i o ho (hall i (List.getElem?_eq_some_iff.1 ho).1)]
        rfl
    rw [e]; exact hI.cls
  intro fuel
  induction fuel with
  | zero =>
    intro listed a f w ht hI
    have hr : Region.ready .any ops.toArray listed = [] := by
      rw [List.eq_nil_iff_forall_not_mem]
      intro i hi
      obtain ⟨h1, h2, _⟩ := (ready_iff hI.size).1 hi
      have : i ∈ (List.range ops.length).filter fun i => !listed.getD i false := List.mem_filter.2 ⟨List.mem_range.2 h1, by rw [h2]; rfl⟩
      unfold todo at ht
      have := List.length_pos_of_mem this
      omega
    exact ⟨hr, hfin listed a f w hI hr⟩
  | succ fuel ih =>
    intro listed a f w ht hI
    refine ⟨hfin listed a f w hI, fun i hi => ?_⟩
    obtain ⟨h1, h2, h3⟩ := (ready_iff hI.size).1 hi
    have ho : ops[i]? = some ops[i] := List.getElem?_eq_getElem h1
    generalize ops[i] = o at ho
    have hless : todo ops (listed.setIfInBounds i true) ≤ fuel := by
      have : todo ops (listed.setIfInBounds i true) < todo ops listed := by
        unfold todo
        refine filter_less (i := i) (fun j hj => ?_) (by rw [h2]; rfl) ?_ _ (List.mem_range.2 h1)
        · rw [listed_set _ _ _ (by rw [hI.size]; exact h1)] at hj
          by_cases hji : j = i
          · rw [if_pos hji] at hj; cases hj
          · rwa [if_neg hji] at hj
        · rw [listed_set _ _ _ (by rw [hI.size]; exact h1), if_pos rfl]; rfl
      omega
    have hfeed : FeedsG ops a0 i o a.eval f := by
      refine ⟨fun t _ => ?_, fun _ => rfl, fun _ => rfl, fun _ => rfl⟩
      unfold kind
      cases hsrc : srcOf ops t with
      | none => exact hI.old t (fun j hj => by rw [hsrc] at hj; cases hj)
      | some j =>
        simp only
        by_cases hc : (waits ops i).contains j
        · rw [if_pos hc]
          obtain ⟨oj, hoj, hdj⟩ := srcOf_get hsrc
          have := hI.new j oj hoj (h3 j (by simpa using hc))
          unfold slotOf at this
          rw [hdj] at this
          exact this
        · rw [if_neg hc]
          by_cases hc2 : (waits ops j).contains i
          · rw [if_pos hc2]
            refine hI.old t (fun k hk => ?_)
            rw [hsrc] at hk; injection hk with hk; subst hk
            cases hl : listed.getD j false
            · rfl
            · have := hI.shut j hl i (by simpa using hc2); rw [h2] at this; cases this
          · rw [if_neg hc2]; trivial
    obtain ⟨hgd, hob⟩ := hop i o ho
    have hwt : Region.wanted o (yielded ops.toArray a.tmps) = tk i := by
      unfold GdS at hgd
      unfold Region.wanted
      cases hg : o.guard with
      | none => rw [hg] at hgd; exact hgd.symm
      | some x =>
        obtain ⟨j, b⟩ := x
        rw [hg] at hgd
        simp only at hgd ⊢
        obtain ⟨hjw, oj, d, hoj, hdj⟩ := gwaitB_get hgb ho hg
        have hnew := hI.new j oj hoj (h3 j hjw)
        have hv := hgd f w _ hI.cls hnew
        unfold slotOf at hv
        rw [hdj] at hv
        simp only at hv
        have hy : yielded ops.toArray a.tmps j = some (if tk i then b else !b) := by
          unfold yielded
          simp only [List.getElem?_toArray, hoj, Option.bind_some, hdj]
          rw [Array.getD_eq_getD_getElem?] at hv
          cases ht : a.tmps[d]? with
          | none => rw [ht] at hv; cases hv
          | some z => rw [ht] at hv; simp only [Option.getD_some] at hv; rw [hv]
        rw [hy]
        cases tk i <;> cases b <;> rfl
    unfold wpOp
    simp only [List.getElem?_toArray, ho]
    cases ht : tk i
    · rw [ht] at hwt hob
      rw [if_neg (by rw [hwt]; exact Bool.false_ne_true)]
      rw [if_neg Bool.false_ne_true] at hob
      exact ih _ _ _ _ hless (hI.put hp hsz ho h3 (hob f w hI.cls (hI.noneAt i h2) (fun j hj => (hI.isSome_iff j).2 (h3 j hj))))
    · rw [ht] at hwt hob
      rw [if_pos hwt]
      rw [if_pos rfl] at hob
      have hob := hob a.eval f w hI.cls (hI.noneAt i h2) (fun j hj => (hI.isSome_iff j).2 (h3 j hj)) (fun j hj k hk => (hI.isSome_iff k).2 (hI.shut j ((hI.isSome_iff j).1 hj) k hk)) hfeed
      exact .inl (wp_of_opOk hob fun v w' hF => ih _ _ _ _ hless (hI.put hp hsz ho h3 hF))
/-- the obligations of a list of operations, the first of which is the k-th; tk: which are done -/
def ObTAll (P : Program) (ops : List Oper) (a0 : Act) (F : Done → World → Prop) (tk : Nat → Bool) : Nat → List Oper → Prop
  | _, [] => True
  | k, o :: os => (GdS F (tk k) o ∧ if tk k = true then ObS P ops a0 F k o else SkS ops F k o) ∧ ObTAll P ops a0 F tk (k + 1) os
theorem ObTAll.get {ops : List Oper} {a0 : Act} {F : Done → World → Prop} {tk : Nat → Bool} : ∀ (l : List Oper) (k : Nat), ObTAll P ops a0 F tk k l → ∀ i o, l[i]? = some o → GdS F (tk (k + i)) o ∧ if tk (k + i) = true then ObS P ops a0 F (k + i) o else SkS ops F (k + i) o
  | [], _, _, i, o, h => by simp at h
  | x :: l, k, h, 0, o, ho => by simp at ho; subst ho; exact h.1
  | x :: l, k, h, i + 1, o, ho => by
    have := ObTAll.get l (k + 1) h.2 i o (by simpa using ho)
    rwa [Nat.add_assoc, Nat.add_comm 1 i] at this
theorem wp_region_reliesT {id : Nat} {ops : List Oper} {a0 : Act} {w0 : World} (F : Done → World → Prop) (tk : Nat → Bool) (hm : P.follows .mixedOrders = true) (hp : plainS ops = true) (hg : gwaitB ops = true) (hr : roomB ops a0.tmps.size = true)
    (hF : F (fun _ => none) w0.drew) (hop : ObTAll P ops a0 F tk 0 ops)
    (hend : ∀ (vs : List Value) (w : World), vs.length = ops.length → F (fun i => vs[i]?) w → Q .normal (putAll ops vs a0) w) :
    (Code.region id ops.toArray true).wp P Q a0 w0 := by
  refine wp_region_any hm ?_
  have hrep : ∀ i, (Array.replicate ops.length false).getD i false = false := by
    intro i; rw [Array.getD_eq_getD_getElem?, Array.getElem?_replicate]; split <;> rfl
  refine wpAny_relyT (F := F) (tk := tk) hp hg ?_ ?_ hend _ _ _ (fun _ => none) _ ?_ ?_
  · intro o ho d hd
    unfold roomB at hr
    rw [List.all_eq_true] at hr
    have := hr o ho
    rw [hd] at this; simpa using this
  · intro i o ho
    have := ObTAll.get ops 0 hop i o ho
    rwa [Nat.zero_add] at this
  · unfold todo
    simp only [List.size_toArray]
    exact Nat.le_trans (List.length_filter_le _ _) (by simp)
  · simp only [List.size_toArray]
    refine ⟨by simp, hF, rfl, rfl, fun t _ => rfl, fun i o _ hl => ?_, fun _ _ => rfl, fun i hl => ?_⟩
    · rw [hrep] at hl; cases hl
    · rw [hrep] at hl; cases hl
end
end Go.Proofs.YtgnlmodaekfhfaaDoor

/- Regions that draw their order: fixed values, and two chains of operations that change the world. No program in sight. -/
namespace Go.Proofs.YtgnlmodaekfhfaaDoor
open Go.RowKit Go.Sort

/-- what has been done: vs are the values of the first chain so far, us those of the second; S says how the world is then; the other operations have fixed values -/
structure ChX (vals : List Value) (c1 c2 : List Nat) (S : List Value → List Value → World → Prop) (f : Done) (W : World) (vs us : List Value) : Prop where
  a1 : ∀ (j k : Nat), c1[j]? = some k → f k = vs[j]?
  a2 : ∀ (j k : Nat), c2[j]? = some k → f k = us[j]?
  l1 : vs.length ≤ c1.length
  l2 : us.length ≤ c2.length
  st : S vs us W
  val : ∀ (j : Nat) (v x : Value), j ∉ c1 → j ∉ c2 → f j = some v → vals[j]? = some x → v = x
def ChF (vals : List Value) (c1 c2 : List Nat) (S : List Value → List Value → World → Prop) (f : Done) (W : World) : Prop := ∃ vs us, ChX vals c1 c2 S f W vs us
variable {vals : List Value} {c1 c2 : List Nat} {S : List Value → List Value → World → Prop} {f : Done} {W W' : World} {vs us : List Value}
theorem ChF.start (h : S [] [] W) : ChF vals c1 c2 S (fun _ => none) W := ⟨[], [], fun _ _ _ => rfl, fun _ _ _ => rfl, Nat.zero_le _, Nat.zero_le _, h, fun _ _ _ _ _ h => by cases h⟩
theorem ChX.vset (h : ChX vals c1 c2 S f W vs us) (i : Nat) (v : Value) (hv : i ∈ c1 ∨ i ∈ c2 ∨ vals[i]? = some v) : ∀ (j : Nat) (u x : Value), j ∉ c1 → j ∉ c2 → (f.set i v) j = some u → vals[j]? = some x → u = x := by
  intro j u x h1 h2 hj hx
  by_cases e : j = i
  · subst e
    rw [Done.same] at hj
    rcases hv with e | e | hv
    · exact absurd e h1
    · exact absurd e h2
    · rw [hv] at hx
      exact (Option.some.inj hj).symm.trans (Option.some.inj hx)
  · rw [Done.other f v e] at hj
    exact h.val j u x h1 h2 hj hx
/-- an operation of fixed value -/
theorem ChX.pure (h : ChX vals c1 c2 S f W vs us) (i : Nat) (v : Value) (h1 : i ∉ c1) (h2 : i ∉ c2) (hv : vals[i]? = some v) (hS : S vs us W') : ChF vals c1 c2 S (f.set i v) W' := by
  refine ⟨vs, us, fun j k hk => ?_, fun j k hk => ?_, h.l1, h.l2, hS, h.vset i v (.inr (.inr hv))⟩
  · rw [Done.other f v (fun e => h1 (by rw [← e]; exact List.mem_of_getElem? hk))]; exact h.a1 j k hk
  · rw [Done.other f v (fun e => h2 (by rw [← e]; exact List.mem_of_getElem? hk))]; exact h.a2 j k hk
/-- the next operation of the first chain -/
theorem ChX.step1 (h : ChX vals c1 c2 S f W vs us) (i : Nat) (v : Value) (hi : c1[vs.length]? = some i) (hn : c1.Nodup) (h2 : i ∉ c2) (hS : S (vs ++ [v]) us W') : ChF vals c1 c2 S (f.set i v) W' := by
  have hlt : vs.length < c1.length := (List.getElem?_eq_some_iff.1 hi).1
  refine ⟨vs ++ [v], us, fun j k hk => ?_, fun j k hk => ?_, by rw [List.length_append]; exact hlt, h.l2, hS, h.vset i v (.inl (List.mem_of_getElem? hi))⟩
  · by_cases e : j = vs.length
    · subst e
      obtain rfl : k = i := Option.some.inj (hk.symm.trans hi)
      rw [Done.same, List.getElem?_append_right (Nat.le_refl _), Nat.sub_self]; rfl
    · have hki : k ≠ i := fun e2 => e (by
        subst e2
        exact (List.getElem?_inj (List.getElem?_eq_some_iff.1 hk).1 hn).1 (hk.trans hi.symm))
      rw [Done.other f v hki, h.a1 j k hk]
      rcases Nat.lt_or_ge j vs.length with hj | hj
      · rw [List.getElem?_append_left hj]
      · rw [List.getElem?_eq_none hj, List.getElem?_eq_none (by rw [List.length_append]; simp; omega)]
  · rw [Done.other f v (fun e => h2 (by rw [← e]; exact List.mem_of_getElem? hk))]; exact h.a2 j k hk
/-- the next operation of the second chain -/
theorem ChX.step2 (h : ChX vals c1 c2 S f W vs us) (i : Nat) (v : Value) (hi : c2[us.length]? = some i) (hn : c2.Nodup) (h1 : i ∉ c1) (hS : S vs (us ++ [v]) W') : ChF vals c1 c2 S (f.set i v) W' := by
  have hlt : us.length < c2.length := (List.getElem?_eq_some_iff.1 hi).1
  refine ⟨vs, us ++ [v], fun j k hk => ?_, fun j k hk => ?_, h.l1, by rw [List.length_append]; exact hlt, hS, h.vset i v (.inr (.inl (List.mem_of_getElem? hi)))⟩
  · rw [Done.other f v (fun e => h1 (by rw [← e]; exact List.mem_of_getElem? hk))]; exact h.a1 j k hk
  · by_cases e : j = us.length
    · subst e
      obtain rfl : k = i := Option.some.inj (hk.symm.trans hi)
      rw [Done.same, List.getElem?_append_right (Nat.le_refl _), Nat.sub_self]; rfl
    · have hki : k ≠ i := fun e2 => e (by
        subst e2
        exact (List.getElem?_inj (List.getElem?_eq_some_iff.1 hk).1 hn).1 (hk.trans hi.symm))
      rw [Done.other f v hki, h.a2 j k hk]
      rcases Nat.lt_or_ge j us.length with hj | hj
      · rw [List.getElem?_append_left hj]
      · rw [List.getElem?_eq_none hj, List.getElem?_eq_none (by rw [List.length_append]; simp; omega)]
theorem ChX.get1 (h : ChX vals c1 c2 S f W vs us) (j i : Nat) {v : Value} (hj : c1[j]? = some i) (hf : f i = some v) : vs[j]? = some v := (h.a1 j i hj).symm.trans hf
theorem ChX.get2 (h : ChX vals c1 c2 S f W vs us) (j i : Nat) {v : Value} (hj : c2[j]? = some i) (hf : f i = some v) : us[j]? = some v := (h.a2 j i hj).symm.trans hf
theorem ChX.le1 (h : ChX vals c1 c2 S f W vs us) (j i : Nat) (hj : c1[j]? = some i) (hf : f i = none) : vs.length ≤ j := List.getElem?_eq_none_iff.1 ((h.a1 j i hj).symm.trans hf)
theorem ChX.le2 (h : ChX vals c1 c2 S f W vs us) (j i : Nat) (hj : c2[j]? = some i) (hf : f i = none) : us.length ≤ j := List.getElem?_eq_none_iff.1 ((h.a2 j i hj).symm.trans hf)
theorem list0 {l : List Value} (h : l.length ≤ 0) : l = [] := List.length_eq_zero_iff.1 (by omega)
theorem list1 {l : List Value} {x : Value} (h : l.length ≤ 1) (hx : l[0]? = some x) : l = [x] := by
  match l, h, hx with
  | [y], _, hx => rw [Option.some.inj (show some y = some x from hx)]
theorem list2 {l : List Value} {x : Value} (h : l.length ≤ 2) (hx : l[1]? = some x) : ∃ y, l = [y, x] := by
  match l, h, hx with
  | [y, z], _, hx => exact ⟨y, by rw [Option.some.inj (show some z = some x from hx)]⟩
theorem list3 {l : List Value} {x : Value} (h : l.length ≤ 3) (hx : l[2]? = some x) : ∃ y z, l = [y, z, x] := by
  match l, h, hx with
  | [y, z, u], _, hx => exact ⟨y, z, by rw [Option.some.inj (show some u = some x from hx)]⟩
theorem list4 {l : List Value} {x : Value} (h : l.length ≤ 4) (hx : l[3]? = some x) : ∃ y z u, l = [y, z, u, x] := by
  match l, h, hx with
  | [y, z, u, v], _, hx => exact ⟨y, z, u, by rw [Option.some.inj (show some v = some x from hx)]⟩
theorem list5 {l : List Value} {x : Value} (h : l.length ≤ 5) (hx : l[4]? = some x) : ∃ y z u v, l = [y, z, u, v, x] := by
  match l, h, hx with
  | [y, z, u, v, t], _, hx => exact ⟨y, z, u, v, by rw [Option.some.inj (show some t = some x from hx)]⟩
end Go.Proofs.YtgnlmodaekfhfaaDoor
