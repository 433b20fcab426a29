/- A region that draws its order and makes or writes memory: one obligation for each operation, over whatever has been done before. -/
import Derived.Test.YtgnlmodaekfhfaaDoorRely
namespace Go.Proofs.YtgnlmodaekfhfaaDoor
open Go.RowKit Go.Sort

section
variable {P : Program} {Q : Exit → Act → World → Prop}

/-- what has been done so far: of each operation its value, or none -/
abbrev Done := Nat → Option Value
def Done.set (f : Done) (i : Nat) (v : Value) : Done := fun j => if j = i then some v else f j
/-- what an operation finds in its operands -/
def FeedsG (ops : List Oper) (a0 : Act) (i : Nat) (o : Oper) (ρ : Operand → Value) (f : Done) : Prop :=
  (∀ t, Operand.tmp t ∈ o.op.operands → match kind ops i t with | some (some j) => f j = some (ρ (.tmp t)) | some none => ρ (.tmp t) = a0.eval (.tmp t) | none => True) ∧
  (∀ v, ρ (.const v) = v) ∧ (∀ g, ρ (.global g) = .pointer (some ⟨g, 0, none⟩)) ∧ (∀ f, ρ (.func f) = .func (.func f) #[] #[])
/-- an operation's obligation -/
def ObG (P : Program) (ops : List Oper) (a0 : Act) (F : Done → World → Prop) (i : Nat) (o : Oper) : Prop :=
  ∀ (ρ : Operand → Value) (f : Done) (w : World), F f w → f i = none → (∀ j ∈ waits ops i, (f j).isSome = true) → (∀ j, (f j).isSome = true → ∀ k ∈ waits ops j, (f k).isSome = true) → FeedsG ops a0 i o ρ f → OpOk P o ρ w fun v w' => F (f.set i v) w'

/-- what holds between the operations -/
structure InvG (ops : List Oper) (a0 : Act) (F : Done → World → Prop) (listed : Array Bool) (a : Act) (f : Done) (w : World) : Prop where
  size : listed.size = ops.length
  cls : F f w
  defers : a.defers = a0.defers
  tmps : a.tmps.size = a0.tmps.size
  old : ∀ t, (∀ i, srcOf ops t = some i → listed.getD i false = false) → a.tmps.getD t undef = a0.tmps.getD t undef
  new : ∀ i o d, ops[i]? = some o → listed.getD i false = true → o.dst = some d → f i = some (a.tmps.getD d undef)
  noneAt : ∀ i, listed.getD i false = false → f i = Option.none
  shut : ∀ i, listed.getD i false = true → ∀ j ∈ waits ops i, listed.getD j false = true

theorem InvG.isSome_iff {ops : List Oper} {a0 : Act} {F : Done → World → Prop} {listed : Array Bool} {a : Act} {f : Done} {w : World} (hp : plainB ops = true) (hI : InvG ops a0 F listed a f w) (j : Nat) : (f j).isSome = true ↔ listed.getD j false = true := by
  constructor
  · intro h
    cases hl : listed.getD j false
    · rw [hI.noneAt j hl] at h; cases h
    · rfl
  · intro h
    have hj : j < ops.length := by
      rcases Nat.lt_or_ge j ops.length with h1 | h1
      · exact h1
      · rw [Array.getD_eq_getD_getElem?, Array.getElem?_eq_none (by rw [hI.size]; exact h1)] at h; cases h
    have ho : ops[j]? = Option.some ops[j] := List.getElem?_eq_getElem hj
    obtain ⟨d, hd, _⟩ := plain_dst hp ho
    rw [hI.new j _ d ho h hd]; rfl

theorem InvG.put {ops : List Oper} {a0 : Act} {F : Done → World → Prop} {listed : Array Bool} {a : Act} {f : Done} {w w' : World} (hp : plainB ops = true)
    (hsz : ∀ o ∈ ops, ∀ d, o.dst = some d → d < a0.tmps.size)
    (hI : InvG ops a0 F listed a f w) {i : Nat} {o : Oper} (ho : ops[i]? = Option.some o) (hw : ∀ j ∈ waits ops i, listed.getD j false = true) {v : Value} (hF : F (f.set i v) w') :
    InvG ops a0 F (listed.setIfInBounds i true) (a.put o.dst v) (f.set i v) w' := by
  have hi : i < listed.size := by rw [hI.size]; exact (List.getElem?_eq_some_iff.1 ho).1
  obtain ⟨d, hd, hsrc⟩ := plain_dst hp ho
  have hds : d < a.tmps.size := by rw [hI.tmps]; exact hsz o (List.mem_of_getElem? ho) d hd
  rw [hd]
  refine ⟨by simp [hI.size], hF, hI.defers, by simp [Act.put, hI.tmps], fun t ht => ?_, fun j oj dj hoj hl hdj => ?_, fun j hl => ?_, fun j hl k hk => ?_⟩
  · rw [put_getD]
    have hne : t ≠ d := by
      rintro rfl
      have := ht i hsrc
      rw [listed_set _ _ _ hi, if_pos rfl] at this; cases this
    rw [if_neg hne]
    refine hI.old t fun j hj => ?_
    have := ht j hj
    rw [listed_set _ _ _ hi] at this
    by_cases hji : j = i
    · rw [if_pos hji] at this; cases this
    · rwa [if_neg hji] at this
  · rw [put_getD]
    obtain ⟨dj', hdj', hsj⟩ := plain_dst hp hoj
    rw [hdj] at hdj'
    injection hdj' with hdj'
    subst hdj'
    unfold Done.set
    by_cases hji : j = i
    · subst hji
      have e : dj = d := by
        rw [ho] at hoj; injection hoj with hoj; subst hoj; rw [hd] at hdj; injection hdj with hdj; exact hdj.symm
      rw [if_pos rfl, if_pos e, if_pos hds]
    · rw [listed_set _ _ _ hi, if_neg hji] at hl
      have hne : dj ≠ d := by
        rintro rfl
        rw [hsrc] at hsj; injection hsj with hsj; exact hji hsj.symm
      rw [if_neg hji, if_neg hne]
      exact hI.new j oj dj hoj hl hdj
  · rw [listed_set _ _ _ hi] at hl
    unfold Done.set
    by_cases hji : j = i
    · rw [if_pos hji] at hl; cases hl
    · rw [if_neg hji] at hl ⊢; exact hI.noneAt j hl
  · rw [listed_set _ _ _ hi] at hl ⊢
    by_cases hk2 : k = i
    · rw [if_pos hk2]
    · rw [if_neg hk2]
      by_cases hji : j = i
      · subst hji; exact hw k hk
      · rw [if_neg hji] at hl; exact hI.shut j hl k hk

theorem InvG.act {ops : List Oper} {a0 : Act} {F : Done → World → Prop} {listed : Array Bool} {a : Act} {f : Done} {w : World} (hp : plainB ops = true)
    (hI : InvG ops a0 F listed a f w) : (∀ i, i < ops.length → listed.getD i false = true) → a = putAll ops (valsOf ops a) a0 := by
  intro hall
  have hJ : Inv ops a0 (fun _ => True) (fun _ _ _ => True) w listed a w :=
    ⟨hI.size, trivial, Below.refl _ _, hI.defers, hI.tmps, hI.old, fun _ _ _ _ _ _ => trivial, hI.shut⟩
  exact hJ.act hp hall

theorem wpAny_relyG {ops : List Oper} {a0 : Act} {F : Done → World → Prop} (hp : plainB ops = true)
    (hsz : ∀ o ∈ ops, ∀ d, o.dst = some d → d < a0.tmps.size)
    (hop : ∀ i o, ops[i]? = some o → o.guard = none ∧ ObG P ops a0 F i o)
    (hend : ∀ (vs : List Value) (w : World), vs.length = ops.length → F (fun i => vs[i]?) w → Q .normal (putAll ops vs a0) w) :
    ∀ (fuel : Nat) (listed : Array Bool) (a : Act) (f : Done) (w : World), todo ops listed ≤ fuel → InvG ops a0 F listed a f w → wpAny P .any ops.toArray Q fuel listed a w := by
  have hfin : ∀ (listed : Array Bool) (a : Act) (f : Done) (w : World), InvG ops a0 F listed a f w → Region.ready .any ops.toArray listed = [] → Q .normal a w := by
    intro listed a f w hI hr
    have hall := none_ready hp hI.size hr
    rw [hI.act hp hall]
    refine hend _ w (by simp [valsOf]) ?_
    have e : (fun i => (valsOf ops a)[i]?) = f := by
      funext i
      unfold valsOf
      rw [List.getElem?_map]
      cases ho : ops[i]? with
      | none =>
        have : ops.length ≤ i := by simpa using ho
        rw [hI.noneAt i (by rw [Array.getD_eq_getD_getElem?, Array.getElem?_eq_none (by rw [hI.size]; exact this)]; rfl)]; rfl
      | some o =>
        obtain ⟨d, hd, _⟩ := plain_dst hp ho
        rw [hI.new i o d ho (hall i (List.getElem?_eq_some_iff.1 ho).1) hd]
        simp only [Option.map_some, hd]
    rw [e]; exact hI.cls
  intro fuel
  induction fuel with
  | zero =>
    intro listed a f w ht hI
    have hr : Region.ready .any ops.toArray listed = [] := by
      rw [List.eq_nil_iff_forall_not_mem]
      intro i hi
      obtain ⟨h1, h2, _⟩ := (ready_iff hI.size).1 hi
      have : i ∈ (List.range ops.length).filter fun i => !listed.getD i false := List.mem_filter.2 ⟨List.mem_range.2 h1, by rw [h2]; rfl⟩
      unfold todo at ht
      have := List.length_pos_of_mem this
      omega
    exact ⟨hr, hfin listed a f w hI hr⟩
  | succ fuel ih =>
    intro listed a f w ht hI
    refine ⟨hfin listed a f w hI, fun i hi => ?_⟩
    obtain ⟨h1, h2, h3⟩ := (ready_iff hI.size).1 hi
    have ho : ops[i]? = some ops[i] := List.getElem?_eq_getElem h1
    generalize ops[i] = o at ho
    have hless : todo ops (listed.setIfInBounds i true) ≤ fuel := by
      have : todo ops (listed.setIfInBounds i true) < todo ops listed := by
        unfold todo
        refine filter_less (i := i) (fun j hj => ?_) (by rw [h2]; rfl) ?_ _ (List.mem_range.2 h1)
        · rw [listed_set _ _ _ (by rw [hI.size]; exact h1)] at hj
          by_cases hji : j = i
          · rw [if_pos hji] at hj; cases hj
          · rwa [if_neg hji] at hj
        · rw [listed_set _ _ _ (by rw [hI.size]; exact h1), if_pos rfl]; rfl
      omega
    have hfeed : FeedsG ops a0 i o a.eval f := by
      refine ⟨fun t _ => ?_, fun _ => rfl, fun _ => rfl, fun _ => rfl⟩
      unfold kind
      cases hsrc : srcOf ops t with
      | none => exact hI.old t (fun j hj => by rw [hsrc] at hj; cases hj)
      | some j =>
        simp only
        by_cases hc : (waits ops i).contains j
        · rw [if_pos hc]
          obtain ⟨oj, hoj, hdj⟩ := srcOf_get hsrc
          exact hI.new j oj t hoj (h3 j (by simpa using hc)) hdj
        · rw [if_neg hc]
          by_cases hc2 : (waits ops j).contains i
          · rw [if_pos hc2]
            refine hI.old t (fun k hk => ?_)
            rw [hsrc] at hk; injection hk with hk; subst hk
            cases hl : listed.getD j false
            · rfl
            · have := hI.shut j hl i (by simpa using hc2); rw [h2] at this; cases this
          · rw [if_neg hc2]; trivial
    obtain ⟨hgd, hob⟩ := hop i o ho
    have hob := hob a.eval f w hI.cls (hI.noneAt i h2) (fun j hj => (hI.isSome_iff hp j).2 (h3 j hj)) (fun j hj k hk => (hI.isSome_iff hp k).2 (hI.shut j ((hI.isSome_iff hp j).1 hj) k hk)) hfeed
    unfold wpOp
    simp only [List.getElem?_toArray, ho]
    have hwt : Region.wanted o (yielded ops.toArray a.tmps) = true := by unfold Region.wanted; rw [hgd]
    rw [if_pos hwt]
    exact .inl (wp_of_opOk hob fun v w' hF => ih _ _ _ _ hless (hI.put hp hsz ho h3 hF))

def bareB (ops : List Oper) : Bool := ops.all fun o => o.guard.isNone
/-- the obligations of a list of operations, the first of which is the k-th -/
def ObGAll (P : Program) (ops : List Oper) (a0 : Act) (F : Done → World → Prop) : Nat → List Oper → Prop
  | _, [] => True
  | k, o :: os => ObG P ops a0 F k o ∧ ObGAll P ops a0 F (k + 1) os
theorem ObGAll.get {ops : List Oper} {a0 : Act} {F : Done → World → Prop} : ∀ (l : List Oper) (k : Nat), ObGAll P ops a0 F k l → ∀ i o, l[i]? = some o → ObG P ops a0 F (k + i) o
  | [], _, _, i, o, h => by simp at h
  | x :: l, k, h, 0, o, ho => by simp at ho; subst ho; exact h.1
  | x :: l, k, h, i + 1, o, ho => by
    have := ObGAll.get l (k + 1) h.2 i o (by simpa using ho)
    rwa [Nat.add_assoc, Nat.add_comm 1 i] at this
theorem wp_region_reliesG {id : Nat} {ops : List Oper} {a0 : Act} {w0 : World} (F : Done → World → Prop) (hm : P.follows .mixedOrders = true) (hp : plainB ops = true) (hg : bareB ops = true) (hr : roomB ops a0.tmps.size = true)
    (hF : F (fun _ => none) w0.drew) (hop : ObGAll P ops a0 F 0 ops)
    (hend : ∀ (vs : List Value) (w : World), vs.length = ops.length → F (fun i => vs[i]?) w → Q .normal (putAll ops vs a0) w) :
    (Code.region id ops.toArray true).wp P Q a0 w0 := by
  refine wp_region_any hm ?_
  have hrep : ∀ i, (Array.replicate ops.length false).getD i false = false := by
    intro i; rw [Array.getD_eq_getD_getElem?, Array.getElem?_replicate]; split <;> rfl
  refine wpAny_relyG (F := F) hp ?_ ?_ hend _ _ _ (fun _ => none) _ ?_ ?_
  · intro o ho d hd
    unfold roomB at hr
    rw [List.all_eq_true] at hr
    have := hr o ho
    rw [hd] at this; simpa using this
  · intro i o ho
    refine ⟨?_, ?_⟩
    · unfold bareB at hg
      rw [List.all_eq_true] at hg
      have := hg o (List.mem_of_getElem? ho)
      cases hgd : o.guard with
      | none => rfl
      | some x => rw [hgd] at this; cases this
    · have := ObGAll.get ops 0 hop i o ho; rwa [Nat.zero_add] at this
  · unfold todo
    simp only [List.size_toArray]
    exact Nat.le_trans (List.length_filter_le _ _) (by simp)
  · simp only [List.size_toArray]
    refine ⟨by simp, hF, rfl, rfl, fun t _ => rfl, fun i o d _ hl => ?_, fun _ _ => rfl, fun i hl => ?_⟩
    · rw [hrep] at hl; cases hl
    · rw [hrep] at hl; cases hl
end
end Go.Proofs.YtgnlmodaekfhfaaDoor
