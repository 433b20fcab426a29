/- A region that draws its order, makes memory and stores: one obligation for each operation, over whatever has been done before; an operation may write no slot. -/
import Derived.Test.YtgnlmodaekfhfaaDoorRely
import Derived.Test.YtgnlmodaekfhfaaDoorRelyG
namespace Go.Proofs.YtgnlmodaekfhfaaDoor
open Go.RowKit Go.Sort

section
variable {P : Program} {Q : Exit → Act → World → Prop}

/-- no slot is written twice; edges go back; an operation may write none -/
def plainS (ops : List Oper) : Bool :=
  ((List.range ops.length).all fun i => (match ops[i]? with | some o => (match o.dst with | some d => srcOf ops d == some i | none => true) | none => false)) &&
  ((List.range ops.length).all fun i => (waits ops i).all fun j => decide (j < i))
theorem plainS_dst {ops : List Oper} (h : plainS ops = true) {i : Nat} {o : Oper} {d : Nat} (ho : ops[i]? = some o) (hd : o.dst = some d) : srcOf ops d = some i := by
  simp only [plainS, Bool.and_eq_true, List.all_eq_true, List.mem_range] at h
  have := h.1 i (List.getElem?_eq_some_iff.1 ho).1
  rw [ho] at this
  simp only [hd] at this
  simpa using this
theorem plainS_back {ops : List Oper} (h : plainS ops = true) {i j : Nat} (hj : j ∈ waits ops i) : j < i ∧ i < ops.length := by
  have hi : i < ops.length := by
    rcases Nat.lt_or_ge i ops.length with h1 | h1
    · exact h1
    · unfold waits at hj; rw [List.getElem?_eq_none h1] at hj; cases hj
  simp only [plainS, Bool.and_eq_true, List.all_eq_true, List.mem_range] at h
  exact ⟨by simpa using h.2 i hi j hj, hi⟩
/-- the slot of an operation, nothing if it writes none -/
def slotOf (o : Oper) (a : Act) : Value := match o.dst with | some d => a.tmps.getD d undef | none => undef
/-- what is kept of an operation's value -/
def keptOf (o : Oper) (v : Value) : Value := match o.dst with | some _ => v | none => undef
/-- an operation's obligation -/
def ObS (P : Program) (ops : List Oper) (a0 : Act) (F : Done → World → Prop) (i : Nat) (o : Oper) : Prop :=
  ∀ (ρ : Operand → Value) (f : Done) (w : World), F f w → f i = none → (∀ j ∈ waits ops i, (f j).isSome = true) → (∀ j, (f j).isSome = true → ∀ k ∈ waits ops j, (f k).isSome = true) → FeedsG ops a0 i o ρ f → OpOk P o ρ w fun v w' => F (f.set i (keptOf o v)) w'

/-- what holds between the operations -/
structure InvS (ops : List Oper) (a0 : Act) (F : Done → World → Prop) (listed : Array Bool) (a : Act) (f : Done) (w : World) : Prop where
  size : listed.size = ops.length
  cls : F f w
  defers : a.defers = a0.defers
  tmps : a.tmps.size = a0.tmps.size
  old : ∀ t, (∀ i, srcOf ops t = some i → listed.getD i false = false) → a.tmps.getD t undef = a0.tmps.getD t undef
  new : ∀ i o, ops[i]? = some o → listed.getD i false = true → f i = some (slotOf o a)
  noneAt : ∀ i, listed.getD i false = false → f i = Option.none
  shut : ∀ i, listed.getD i false = true → ∀ j ∈ waits ops i, listed.getD j false = true

theorem InvS.isSome_iff {ops : List Oper} {a0 : Act} {F : Done → World → Prop} {listed : Array Bool} {a : Act} {f : Done} {w : World} (hI : InvS ops a0 F listed a f w) (j : Nat) : (f j).isSome = true ↔ listed.getD j false = true := by
  constructor
  · intro h
    cases hl : listed.getD j false
    · rw [hI.noneAt j hl] at h; cases h
    · rfl
  · intro h
    have hj : j < ops.length := by
      rcases Nat.lt_or_ge j ops.length with h1 | h1
      · exact h1
      · rw [Array.getD_eq_getD_getElem?, Array.getElem?_eq_none (by rw [hI.size]; exact h1)] at h; cases h
    rw [hI.new j _ (List.getElem?_eq_getElem hj) h]; rfl

theorem InvS.put {ops : List Oper} {a0 : Act} {F : Done → World → Prop} {listed : Array Bool} {a : Act} {f : Done} {w w' : World} (hp : plainS ops = true)
    (hsz : ∀ o ∈ ops, ∀ d, o.dst = some d → d < a0.tmps.size)
    (hI : InvS ops a0 F listed a f w) {i : Nat} {o : Oper} (ho : ops[i]? = Option.some o) (hw : ∀ j ∈ waits ops i, listed.getD j false = true) {v : Value} (hF : F (f.set i (keptOf o v)) w') :
    InvS ops a0 F (listed.setIfInBounds i true) (a.put o.dst v) (f.set i (keptOf o v)) w' := by
  have hi : i < listed.size := by rw [hI.size]; exact (List.getElem?_eq_some_iff.1 ho).1
  have hshut : ∀ j, (listed.setIfInBounds i true).getD j false = true → ∀ k ∈ waits ops j, (listed.setIfInBounds i true).getD k false = true := by
    intro j hl k hk
    rw [listed_set _ _ _ hi] at hl ⊢
    by_cases hk2 : k = i
    · rw [if_pos hk2]
    · rw [if_neg hk2]
      by_cases hji : j = i
      · subst hji; exact hw k hk
      · rw [if_neg hji] at hl; exact hI.shut j hl k hk
  have hnone : ∀ j, (listed.setIfInBounds i true).getD j false = false → (f.set i (keptOf o v)) j = Option.none := by
    intro j hl
    rw [listed_set _ _ _ hi] at hl
    unfold Done.set
    by_cases hji : j = i
    · rw [if_pos hji] at hl; cases hl
    · rw [if_neg hji] at hl ⊢; exact hI.noneAt j hl
  cases hd : o.dst with
  | none =>
    have ha : a.put none v = a := rfl
    rw [ha]
    refine ⟨by simp [hI.size], hF, hI.defers, hI.tmps, fun t ht => ?_, fun j oj hoj hl => ?_, hnone, hshut⟩
    · refine hI.old t fun j hj => ?_
      have := ht j hj
      rw [listed_set _ _ _ hi] at this
      by_cases hji : j = i
      · rw [if_pos hji] at this; cases this
      · rwa [if_neg hji] at this
    · unfold Done.set
      by_cases hji : j = i
      · subst hji
        rw [ho] at hoj; injection hoj with hoj; subst hoj
        rw [if_pos rfl]; unfold keptOf slotOf; rw [hd]
      · rw [listed_set _ _ _ hi, if_neg hji] at hl
        rw [if_neg hji]; exact hI.new j oj hoj hl
  | some d =>
    have hsrc := plainS_dst hp ho hd
    have hds : d < a.tmps.size := by rw [hI.tmps]; exact hsz o (List.mem_of_getElem? ho) d hd
    refine ⟨by simp [hI.size], hF, hI.defers, by simp [Act.put, hI.tmps], fun t ht => ?_, fun j oj hoj hl => ?_, hnone, hshut⟩
    · rw [put_getD]
      have hne : t ≠ d := by
        rintro rfl
        have := ht i hsrc
        rw [listed_set _ _ _ hi, if_pos rfl] at this; cases this
      rw [if_neg hne]
      refine hI.old t fun j hj => ?_
      have := ht j hj
      rw [listed_set _ _ _ hi] at this
      by_cases hji : j = i
      · rw [if_pos hji] at this; cases this
      · rwa [if_neg hji] at this
    · unfold Done.set
      by_cases hji : j = i
      · subst hji
        rw [ho] at hoj; injection hoj with hoj; subst hoj
        rw [if_pos rfl]; unfold keptOf slotOf; rw [hd]
        simp only
        rw [put_getD, if_pos rfl, if_pos hds]
      · rw [listed_set _ _ _ hi, if_neg hji] at hl
        rw [if_neg hji, hI.new j oj hoj hl]
        unfold slotOf
        cases hdj : oj.dst with
        | none => rfl
        | some dj =>
          simp only
          have hsj := plainS_dst hp hoj hdj
          have hne : dj ≠ d := by
            rintro rfl
            rw [hsrc] at hsj; injection hsj with hsj; exact hji hsj.symm
          rw [put_getD, if_neg hne]

theorem noneS_ready {ops : List Oper} (hp : plainS ops = true) {listed : Array Bool} (hs : listed.size = ops.length) (h : Region.ready .any ops.toArray listed = []) : ∀ i, i < ops.length → listed.getD i false = true := by
  intro i
  induction i using Nat.strongRecOn with
  | _ i ih =>
    intro hi
    cases hl : listed.getD i false
    · have : i ∈ Region.ready .any ops.toArray listed := (ready_iff hs).2 ⟨hi, hl, fun j hj => ih j (plainS_back hp hj).1 (Nat.lt_trans (plainS_back hp hj).1 hi)⟩
      rw [h] at this; cases this
    · rfl
theorem InvS.act {ops : List Oper} {a0 : Act} {F : Done → World → Prop} {listed : Array Bool} {a : Act} {f : Done} {w : World} (hp : plainS ops = true)
    (hI : InvS ops a0 F listed a f w) : a = putAll ops (valsOf ops a) a0 := by
  obtain ⟨h1, h2⟩ := putAll_size ops (valsOf ops a) a0
  have ht : ∀ t, t < a.tmps.size → a.tmps.getD t undef = (putAll ops (valsOf ops a) a0).tmps.getD t undef := by
    intro t hts
    cases hsrc : srcOf ops t with
    | none =>
      rw [putAll_none ops _ a0 t, hI.old t (fun i hi => by rw [hsrc] at hi; cases hi)]
      intro o ho hd
      obtain ⟨j, hj⟩ := List.getElem?_of_mem ho
      have hs := plainS_dst hp hj hd
      rw [hsrc] at hs; cases hs
    | some i =>
      obtain ⟨o, ho, hd⟩ := srcOf_get hsrc
      refine (putAll_at ops _ a0 i t _ ?_ ⟨o, ho, hd⟩ ?_ (by rw [← hI.tmps]; exact hts)).symm
      · unfold valsOf; rw [List.getElem?_map, ho]; simp only [Option.map_some, hd]
      · intro j oj hj hoj hdj
        have hs := plainS_dst hp hoj hdj
        rw [hsrc] at hs; injection hs with hs; omega
  have htm : a.tmps = (putAll ops (valsOf ops a) a0).tmps := by
    apply Array.ext
    · rw [h1, hI.tmps]
    · intro t h3 h4
      have := ht t h3
      rw [Array.getD_eq_getD_getElem?, Array.getD_eq_getD_getElem?, Array.getElem?_eq_getElem h3, Array.getElem?_eq_getElem h4] at this
      simpa using this
  have hdf : a.defers = (putAll ops (valsOf ops a) a0).defers := by rw [h2]; exact hI.defers
  cases a; generalize hx : putAll ops _ a0 = x at *
  cases x; simp only at htm hdf; subst htm; subst hdf; rfl

theorem wpAny_relyS {ops : List Oper} {a0 : Act} {F : Done → World → Prop} (hp : plainS ops = true)
    (hsz : ∀ o ∈ ops, ∀ d, o.dst = some d → d < a0.tmps.size)
    (hop : ∀ i o, ops[i]? = some o → o.guard = none ∧ ObS P ops a0 F i o)
    (hend : ∀ (vs : List Value) (w : World), vs.length = ops.length → F (fun i => vs[i]?) w → Q .normal (putAll ops vs a0) w) :
    ∀ (fuel : Nat) (listed : Array Bool) (a : Act) (f : Done) (w : World), todo ops listed ≤ fuel → InvS ops a0 F listed a f w → wpAny P .any ops.toArray Q fuel listed a w := by
  have hfin : ∀ (listed : Array Bool) (a : Act) (f : Done) (w : World), InvS ops a0 F listed a f w → Region.ready .any ops.toArray listed = [] → Q .normal a w := by
    intro listed a f w hI hr
    have hall := noneS_ready hp hI.size hr
    rw [hI.act hp]
    refine hend _ w (by simp [valsOf]) ?_
    have e : (fun i => (valsOf ops a)[i]?) = f := by
      funext i
      unfold valsOf
      rw [List.getElem?_map]
      cases ho : ops[i]? with
      | none =>
        have : ops.length ≤ i := by simpa using ho
        rw [hI.noneAt i (by rw [Array.getD_eq_getD_getElem?, Array.getElem?_eq_none (by rw [hI.size]; exact this)]; rfl)]; rfl
      | some o =>
        rw [hI.new i o ho (hall i (List.getElem?_eq_some_iff.1 ho).1)]
        rfl
    rw [e]; exact hI.cls
  intro fuel
  induction fuel with
  | zero =>
    intro listed a f w ht hI
    have hr : Region.ready .any ops.toArray listed = [] := by
      rw [List.eq_nil_iff_forall_not_mem]
      intro i hi
      obtain ⟨h1, h2, _⟩ := (ready_iff hI.size).1 hi
      have : i ∈ (List.range ops.length).filter fun i => !listed.getD i false := List.mem_filter.2 ⟨List.mem_range.2 h1, by rw [h2]; rfl⟩
      unfold todo at ht
      have := List.length_pos_of_mem this
      omega
    exact ⟨hr, hfin listed a f w hI hr⟩
  | succ fuel ih =>
    intro listed a f w ht hI
    refine ⟨hfin listed a f w hI, fun i hi => ?_⟩
    obtain ⟨h1, h2, h3⟩ := (ready_iff hI.size).1 hi
    have ho : ops[i]? = some ops[i] := List.getElem?_eq_getElem h1
    generalize ops[i] = o at ho
    have hless : todo ops (listed.setIfInBounds i true) ≤ fuel := by
      have : todo ops (listed.setIfInBounds i true) < todo ops listed := by
        unfold todo
        refine filter_less (i := i) (fun j hj => ?_) (by rw [h2]; rfl) ?_ _ (List.mem_range.2 h1)
        · rw [listed_set _ _ _ (by rw [hI.size]; exact h1)] at hj
          by_cases hji : j = i
          · rw [if_pos hji] at hj; cases hj
          · rwa [if_neg hji] at hj
        · rw [listed_set _ _ _ (by rw [hI.size]; exact h1), if_pos rfl]; rfl
      omega
    have hfeed : FeedsG ops a0 i o a.eval f := by
      refine ⟨fun t _ => ?_, fun _ => rfl, fun _ => rfl, fun _ => rfl⟩
      unfold kind
      cases hsrc : srcOf ops t with
      | none => exact hI.old t (fun j hj => by rw [hsrc] at hj; cases hj)
      | some j =>
        simp only
        by_cases hc : (waits ops i).contains j
        · rw [if_pos hc]
          obtain ⟨oj, hoj, hdj⟩ := srcOf_get hsrc
          have := hI.new j oj hoj (h3 j (by simpa using hc))
          unfold slotOf at this
          rw [hdj] at this
          exact this
        · rw [if_neg hc]
          by_cases hc2 : (waits ops j).contains i
          · rw [if_pos hc2]
            refine hI.old t (fun k hk => ?_)
            rw [hsrc] at hk; injection hk with hk; subst hk
            cases hl : listed.getD j false
            · rfl
            · have := hI.shut j hl i (by simpa using hc2); rw [h2] at this; cases this
          · rw [if_neg hc2]; trivial
    obtain ⟨hgd, hob⟩ := hop i o ho
    have hob := hob a.eval f w hI.cls (hI.noneAt i h2) (fun j hj => (hI.isSome_iff j).2 (h3 j hj)) (fun j hj k hk => (hI.isSome_iff k).2 (hI.shut j ((hI.isSome_iff j).1 hj) k hk)) hfeed
    unfold wpOp
    simp only [List.getElem?_toArray, ho]
    have hwt : Region.wanted o (yielded ops.toArray a.tmps) = true := by unfold Region.wanted; rw [hgd]
    rw [if_pos hwt]
    exact .inl (wp_of_opOk hob fun v w' hF => ih _ _ _ _ hless (hI.put hp hsz ho h3 hF))

/-- the obligations of a list of operations, the first of which is the k-th -/
def ObSAll (P : Program) (ops : List Oper) (a0 : Act) (F : Done → World → Prop) : Nat → List Oper → Prop
  | _, [] => True
  | k, o :: os => ObS P ops a0 F k o ∧ ObSAll P ops a0 F (k + 1) os
theorem ObSAll.get {ops : List Oper} {a0 : Act} {F : Done → World → Prop} : ∀ (l : List Oper) (k : Nat), ObSAll P ops a0 F k l → ∀ i o, l[i]? = some o → ObS P ops a0 F (k + i) o
  | [], _, _, i, o, h => by simp at h
  | x :: l, k, h, 0, o, ho => by simp at ho; subst ho; exact h.1
  | x :: l, k, h, i + 1, o, ho => by
    have := ObSAll.get l (k + 1) h.2 i o (by simpa using ho)
    rwa [Nat.add_assoc, Nat.add_comm 1 i] at this
theorem wp_region_reliesS {id : Nat} {ops : List Oper} {a0 : Act} {w0 : World} (F : Done → World → Prop) (hm : P.follows .mixedOrders = true) (hp : plainS ops = true) (hg : bareB ops = true) (hr : roomB ops a0.tmps.size = true)
    (hF : F (fun _ => none) w0.drew) (hop : ObSAll P ops a0 F 0 ops)
    (hend : ∀ (vs : List Value) (w : World), vs.length = ops.length → F (fun i => vs[i]?) w → Q .normal (putAll ops vs a0) w) :
    (Code.region id ops.toArray true).wp P Q a0 w0 := by
  refine wp_region_any hm ?_
  have hrep : ∀ i, (Array.replicate ops.length false).getD i false = false := by
    intro i; rw [Array.getD_eq_getD_getElem?, Array.getElem?_replicate]; split <;> rfl
  refine wpAny_relyS (F := F) hp ?_ ?_ hend _ _ _ (fun _ => none) _ ?_ ?_
  · intro o ho d hd
    unfold roomB at hr
    rw [List.all_eq_true] at hr
    have := hr o ho
    rw [hd] at this; simpa using this
  · intro i o ho
    refine ⟨?_, ?_⟩
    · unfold bareB at hg
      rw [List.all_eq_true] at hg
      have := hg o (List.mem_of_getElem? ho)
      cases hgd : o.guard with
      | none => rfl
      | some x => rw [hgd] at this; cases this
    · have := ObSAll.get ops 0 hop i o ho; rwa [Nat.zero_add] at this
  · unfold todo
    simp only [List.size_toArray]
    exact Nat.le_trans (List.length_filter_le _ _) (by simp)
  · simp only [List.size_toArray]
    refine ⟨by simp, hF, rfl, rfl, fun t _ => rfl, fun i o _ hl => ?_, fun _ _ => rfl, fun i hl => ?_⟩
    · rw [hrep] at hl; cases hl
    · rw [hrep] at hl; cases hl
end
end Go.Proofs.YtgnlmodaekfhfaaDoor
