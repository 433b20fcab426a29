/- Rely, RelyG, RelyS, RelyT in one text. -/
import Derived.WalkKit
import Derived.Lib.QuietBelow

/- A region that draws its order and makes memory: one obligation for each operation, whatever the order. -/
namespace Go.Proofs.YtginbellakkliaaDoor
open Go.RowKit Go.Sort

section
variable {P : Program} {Q : Exit → Act → World → Prop}

/-- which operation writes a slot -/
def srcOf (ops : List Oper) (t : Nat) : Option Nat := ops.findIdx? fun o => o.dst == some t
/-- the operations that an operation waits for -/
def waits (ops : List Oper) (i : Nat) : List Nat := match ops[i]? with | some o => (o.after.toList.filter (Region.binds .any)).map (·.on) | none => []
/-- where an operand comes from: an operation that was waited for; or what was there before -/
def kind (ops : List Oper) (i t : Nat) : Option (Option Nat) :=
  match srcOf ops t with
  | none => some none
  | some j => if (waits ops i).contains j then some (some j) else if (waits ops j).contains i then some none else none
/-- each operation writes one slot, and no other one writes it; edges go back -/
def plainB (ops : List Oper) : Bool :=
  (ops.all fun o => o.dst.isSome && !(match o.op with | .defer _ => true | .select _ _ => true | _ => false)) &&
  ((List.range ops.length).all fun i => (match ops[i]? with | some o => (match o.dst with | some d => srcOf ops d == some i | none => false) | none => false)) &&
  ((List.range ops.length).all fun i => (waits ops i).all fun j => decide (j < i))

/-- what an operation comes to -/
def OpOk (P : Program) (o : Oper) (ρ : Operand → Value) (w : World) (R : Value → World → Prop) : Prop :=
  match (execOp ρ o).run P w with
  | .ok (.value v) w' => R v w'
  | .ok .skip w' => R undef w'
  | .ok (.enter f args) w' => Calls P f args w' fun e w'' => ∃ v, e = .returned v ∧ R v w''
  | _ => False

/-- what an operation finds in its operands -/
def Feeds (ops : List Oper) (a0 : Act) (sp : Nat → Value → World → Prop) (i : Nat) (o : Oper) (ρ : Operand → Value) (w : World) : Prop :=
  (∀ t, Operand.tmp t ∈ o.op.operands → match kind ops i t with | some (some j) => sp j (ρ (.tmp t)) w | some none => ρ (.tmp t) = a0.eval (.tmp t) | none => True) ∧
  (∀ v, ρ (.const v) = v) ∧ (∀ g, ρ (.global g) = .pointer (some ⟨g, 0, none⟩)) ∧ (∀ f, ρ (.func f) = .func (.func f) #[] #[])

/-- an operation's obligation -/
def Ob (P : Program) (ops : List Oper) (a0 : Act) (C : World → Prop) (sp : Nat → Value → World → Prop) (i : Nat) (o : Oper) : Prop :=
  ∀ (ρ : Operand → Value) (w : World), C w → Feeds ops a0 sp i o ρ w →
    match o.guard with
    | none => OpOk P o ρ w fun v w' => Below w.heap.size w w' ∧ C w' ∧ sp i v w'
    | some (g, b) => ∀ v, sp g v w → (v = .bool b → OpOk P o ρ w fun v w' => Below w.heap.size w w' ∧ C w' ∧ sp i v w') ∧ (v ≠ .bool b → sp i undef w)

def putAll (ops : List Oper) (vs : List Value) (a : Act) : Act := (ops.zip vs).foldl (fun a p => a.put p.1.dst p.2) a

/-- what holds between the operations -/
structure Inv (ops : List Oper) (a0 : Act) (C : World → Prop) (sp : Nat → Value → World → Prop) (w0 : World) (listed : Array Bool) (a : Act) (w : World) : Prop where
  size : listed.size = ops.length
  cls : C w
  below : Below w0.heap.size w0 w
  defers : a.defers = a0.defers
  tmps : a.tmps.size = a0.tmps.size
  old : ∀ t, (∀ i, srcOf ops t = some i → listed.getD i false = false) → a.tmps.getD t undef = a0.tmps.getD t undef
  new : ∀ i o d, ops[i]? = some o → listed.getD i false = true → o.dst = some d → sp i (a.tmps.getD d undef) w
  shut : ∀ i, listed.getD i false = true → ∀ j ∈ waits ops i, listed.getD j false = true

theorem srcOf_get {ops : List Oper} {t i : Nat} (h : srcOf ops t = some i) : ∃ o, ops[i]? = some o ∧ o.dst = some t := by
  unfold srcOf at h
  obtain ⟨hi, h1, _⟩ := List.findIdx?_eq_some_iff_getElem.1 h
  exact ⟨ops[i], List.getElem?_eq_getElem hi, by simpa using h1⟩
theorem plain_dst {ops : List Oper} (h : plainB ops = true) {i : Nat} {o : Oper} (ho : ops[i]? = some o) : ∃ d, o.dst = some d ∧ srcOf ops d = some i := by
  simp only [plainB, Bool.and_eq_true, List.all_eq_true, List.mem_range] at h
  have hi : i < ops.length := (List.getElem?_eq_some_iff.1 ho).1
  have := h.1.2 i hi
  rw [ho] at this
  simp only at this
  cases hd : o.dst with
  | none => rw [hd] at this; cases this
  | some d => rw [hd] at this; exact ⟨d, rfl, by simpa using this⟩
theorem plain_back {ops : List Oper} (h : plainB ops = true) {i j : Nat} (hj : j ∈ waits ops i) : j < i ∧ i < ops.length := by
  have hi : i < ops.length := by
    rcases Nat.lt_or_ge i ops.length with h1 | h1
    · exact h1
    · unfold waits at hj; rw [List.getElem?_eq_none h1] at hj; cases hj
  simp only [plainB, Bool.and_eq_true, List.all_eq_true, List.mem_range] at h
  exact ⟨by simpa using h.2 i hi j hj, hi⟩
theorem plain_op {ops : List Oper} (h : plainB ops = true) {i : Nat} {o : Oper} (ho : ops[i]? = some o) : (∀ c, o.op ≠ .defer c) ∧ ∀ cs b, o.op ≠ .select cs b := by
  simp only [plainB, Bool.and_eq_true, List.all_eq_true] at h
  have := (h.1.1 o (List.mem_of_getElem? ho)).2
  constructor
  · intro c hc; rw [hc] at this; cases this
  · intro cs b hc; rw [hc] at this; cases this
theorem listed_set (listed : Array Bool) (i j : Nat) (hi : i < listed.size) : (listed.setIfInBounds i true).getD j false = if j = i then true else listed.getD j false := by
  rw [Array.getD_eq_getD_getElem?, Array.getD_eq_getD_getElem?, Array.getElem?_setIfInBounds]
  by_cases h : i = j
  · subst h; simp [hi]
  · rw [if_neg h, if_neg (fun e => h e.symm)]
theorem put_getD (a : Act) (d t : Nat) (v : Value) : (a.put (some d) v).tmps.getD t undef = if t = d then (if d < a.tmps.size then v else undef) else a.tmps.getD t undef := by
  simp only [Act.put, Array.getD_eq_getD_getElem?, Array.getElem?_setIfInBounds]
  by_cases h : d = t
  · subst h
    by_cases hs : d < a.tmps.size <;> simp [hs]
  · rw [if_neg h, if_neg (fun e => h e.symm)]

theorem Inv.put {ops : List Oper} {a0 : Act} {C : World → Prop} {sp : Nat → Value → World → Prop} {w0 : World} {listed : Array Bool} {a : Act} {w w' : World} (hp : plainB ops = true) (hst : ∀ i v w w', sp i v w → Below w.heap.size w w' → sp i v w')
    (hsz : ∀ o ∈ ops, ∀ d, o.dst = some d → d < a0.tmps.size)
    (hI : Inv ops a0 C sp w0 listed a w) {i : Nat} {o : Oper} (ho : ops[i]? = some o) (hw : ∀ j ∈ waits ops i, listed.getD j false = true) {v : Value} (hb : Below w.heap.size w w') (hC : C w') (hv : sp i v w') :
    Inv ops a0 C sp w0 (listed.setIfInBounds i true) (a.put o.dst v) w' := by
  have hi : i < listed.size := by rw [hI.size]; exact (List.getElem?_eq_some_iff.1 ho).1
  obtain ⟨d, hd, hsrc⟩ := plain_dst hp ho
  have hds : d < a.tmps.size := by rw [hI.tmps]; exact hsz o (List.mem_of_getElem? ho) d hd
  rw [hd]
  refine ⟨by simp [hI.size], hC, hI.below.trans (hb.mono hI.below.size), hI.defers, by simp [Act.put, hI.tmps], fun t ht => ?_, fun j oj dj hoj hl hdj => ?_, fun j hl k hk => ?_⟩
  · rw [put_getD]
    have hne : t ≠ d := by
      rintro rfl
      have := ht i hsrc
      rw [listed_set _ _ _ hi, if_pos rfl] at this; cases this
    rw [if_neg hne]
    refine hI.old t fun j hj => ?_
    have := ht j hj
    rw [listed_set _ _ _ hi] at this
    by_cases hji : j = i
    · rw [if_pos hji] at this; cases this
    · rwa [if_neg hji] at this
  · rw [put_getD]
    obtain ⟨dj', hdj', hsj⟩ := plain_dst hp hoj
    rw [hdj] at hdj'
    injection hdj' with hdj'
    subst hdj'
    by_cases hji : j = i
    · subst hji
      rw [hsrc] at *
      have e : dj = d := by
        rw [ho] at hoj; injection hoj with hoj; subst hoj; rw [hd] at hdj; injection hdj with hdj; exact hdj.symm
      rw [if_pos e, if_pos hds]; exact hv
    · rw [listed_set _ _ _ hi, if_neg hji] at hl
      have hne : dj ≠ d := by
        rintro rfl
        rw [hsrc] at hsj; injection hsj with hsj; exact hji hsj.symm
      rw [if_neg hne]
      exact hst _ _ _ _ (hI.new j oj dj hoj hl hdj) hb
  · rw [listed_set _ _ _ hi] at hl ⊢
    by_cases hk2 : k = i
    · rw [if_pos hk2]
    · rw [if_neg hk2]
      by_cases hji : j = i
      · subst hji; exact hw k hk
      · rw [if_neg hji] at hl; exact hI.shut j hl k hk

theorem filter_less {p q : Nat → Bool} {i : Nat} (hq : ∀ j, q j = true → p j = true) (hi : p i = true) (hn : q i = false) : ∀ l : List Nat, i ∈ l → (l.filter q).length < (l.filter p).length
  | [], h => by cases h
  | x :: l, h => by
    have hle : (l.filter q).length ≤ (l.filter p).length := by
      have : ∀ l : List Nat, (l.filter q).length ≤ (l.filter p).length := by
        intro l
        induction l with
        | nil => simp
        | cons y l ih =>
          rw [List.filter_cons, List.filter_cons]
          cases hqy : q y
          · cases hpy : p y <;> simp <;> omega
          · rw [hq y hqy]; simp; omega
      exact this l
    rw [List.filter_cons, List.filter_cons]
    rcases List.mem_cons.1 h with h1 | h1
    · subst h1; rw [hi, hn]; simp; omega
    · have := filter_less hq hi hn l h1
      cases hqx : q x
      · cases hpx : p x <;> simp <;> omega
      · rw [hq x hqx]; simp; omega
/-- how many are still to come -/
def todo (ops : List Oper) (listed : Array Bool) : Nat := ((List.range ops.length).filter fun i => !listed.getD i false).length

theorem ready_iff {ops : List Oper} {listed : Array Bool} (hs : listed.size = ops.length) {i : Nat} : i ∈ Region.ready .any ops.toArray listed ↔ i < ops.length ∧ listed.getD i false = false ∧ ∀ j ∈ waits ops i, listed.getD j false = true := by
  unfold Region.ready waits
  simp only [List.size_toArray, List.mem_filter, List.mem_range, List.getElem?_toArray, Bool.and_eq_true]
  constructor
  · rintro ⟨hi, h1, h2⟩
    refine ⟨hi, ?_, ?_⟩
    · rw [Array.getD_eq_getD_getElem?] at h1 ⊢
      rw [Array.getElem?_eq_getElem (by omega)] at h1 ⊢
      simpa using h1
    · rw [List.getElem?_eq_getElem hi] at h2 ⊢
      simp only [Option.map_some, Option.getD_some] at h2
      intro j hj
      obtain ⟨e, he, rfl⟩ := List.mem_map.1 hj
      obtain ⟨he1, he2⟩ := List.mem_filter.1 he
      have := Array.all_eq_true_iff_forall_mem.1 h2 e (Array.mem_toList_iff.1 he1)
      rw [he2] at this; simpa using this
  · rintro ⟨hi, h1, h2⟩
    refine ⟨hi, ?_, ?_⟩
    · rw [Array.getD_eq_getD_getElem?] at h1 ⊢
      rw [Array.getElem?_eq_getElem (by omega)] at h1 ⊢
      simpa using h1
    · rw [List.getElem?_eq_getElem hi] at h2 ⊢
      simp only [Option.map_some, Option.getD_some]
      rw [Array.all_eq_true_iff_forall_mem]
      intro e he
      cases hb : Region.binds .any e
      · rfl
      · have := h2 e.on (List.mem_map.2 ⟨e, List.mem_filter.2 ⟨Array.mem_toList_iff.2 he, hb⟩, rfl⟩)
        simpa using this
theorem none_ready {ops : List Oper} (hp : plainB ops = true) {listed : Array Bool} (hs : listed.size = ops.length) (h : Region.ready .any ops.toArray listed = []) : ∀ i, i < ops.length → listed.getD i false = true := by
  intro i
  induction i using Nat.strongRecOn with
  | ind i ih =>
    intro hi
    cases hl : listed.getD i false
    · have : i ∈ Region.ready .any ops.toArray listed := (ready_iff hs).2 ⟨hi, hl, fun j hj => ih j (plain_back hp hj).1 (Nat.lt_trans (plain_back hp hj).1 hi)⟩
      rw [h] at this; cases this
    · rfl

theorem putAll_size (ops : List Oper) : ∀ (vs : List Value) (a : Act), (putAll ops vs a).tmps.size = a.tmps.size ∧ (putAll ops vs a).defers = a.defers := by
  induction ops with
  | nil => intro vs a; simp [putAll]
  | cons o ops ih =>
    intro vs a
    cases vs with
    | nil => simp [putAll]
    | cons v vs =>
      have := ih vs (a.put o.dst v)
      have e : putAll (o :: ops) (v :: vs) a = putAll ops vs (a.put o.dst v) := by simp [putAll]
      rw [e, this.1, this.2]
      cases o.dst <;> simp [Act.put]
theorem putAll_none (ops : List Oper) : ∀ (vs : List Value) (a : Act) (t : Nat), (∀ o ∈ ops, o.dst ≠ some t) → (putAll ops vs a).tmps.getD t undef = a.tmps.getD t undef := by
  induction ops with
  | nil => intro vs a t _; simp [putAll]
  | cons o ops ih =>
    intro vs a t h
    cases vs with
    | nil => simp [putAll]
    | cons v vs =>
      have e : putAll (o :: ops) (v :: vs) a = putAll ops vs (a.put o.dst v) := by simp [putAll]
      rw [e, ih vs _ t (fun x hx => h x (List.mem_cons_of_mem _ hx))]
      cases hd : o.dst with
      | none => simp [Act.put]
      | some d => rw [put_getD, if_neg (fun e => h o (List.mem_cons_self) (by rw [hd, e]))]
theorem putAll_at (ops : List Oper) : ∀ (vs : List Value) (a : Act) (i t : Nat) (v : Value), vs[i]? = some v → (∃ o, ops[i]? = some o ∧ o.dst = some t) → (∀ j o, i < j → ops[j]? = some o → o.dst ≠ some t) → t < a.tmps.size → (putAll ops vs a).tmps.getD t undef = v := by
  induction ops with
  | nil => intro vs a i t v _ h; obtain ⟨o, h, _⟩ := h; simp at h
  | cons o ops ih =>
    intro vs a i t v hv ho hn hs
    cases vs with
    | nil => simp at hv
    | cons v' vs =>
      have e : putAll (o :: ops) (v' :: vs) a = putAll ops vs (a.put o.dst v') := by simp [putAll]
      rw [e]
      cases i with
      | zero =>
        obtain ⟨o', ho', hd⟩ := ho
        simp at ho' hv
        subst ho'; subst hv
        rw [putAll_none ops vs _ t (fun x hx => ?_)]
        · rw [hd, put_getD, if_pos rfl, if_pos hs]
        · obtain ⟨j, hj⟩ := List.getElem?_of_mem hx
          exact hn (j + 1) x (by omega) (by simpa using hj)
      | succ i =>
        refine ih vs _ i t v (by simpa using hv) ?_ ?_ ?_
        · obtain ⟨o', ho', hd⟩ := ho; exact ⟨o', by simpa using ho', hd⟩
        · intro j o' hj ho'; exact hn (j + 1) o' (by omega) (by simpa using ho')
        · cases o.dst <;> simp [Act.put]; exact hs; exact hs

/-- the slots' values, in the order of the text -/
def valsOf (ops : List Oper) (a : Act) : List Value := ops.map fun o => match o.dst with | some d => a.tmps.getD d undef | none => undef
theorem Inv.act {ops : List Oper} {a0 : Act} {C : World → Prop} {sp : Nat → Value → World → Prop} {w0 : World} {listed : Array Bool} {a : Act} {w : World} (hp : plainB ops = true)
    (hI : Inv ops a0 C sp w0 listed a w) (_hall : ∀ i, i < ops.length → listed.getD i false = true) : a = putAll ops (valsOf ops a) a0 := by
  obtain ⟨h1, h2⟩ := putAll_size ops (valsOf ops a) a0
  have ht : ∀ t, t < a.tmps.size → a.tmps.getD t undef = (putAll ops (valsOf ops a) a0).tmps.getD t undef := by
    intro t hts
    cases hsrc : srcOf ops t with
    | none =>
      rw [putAll_none ops _ a0 t, hI.old t (fun i hi => by rw [hsrc] at hi; cases hi)]
      intro o ho hd
      obtain ⟨j, hj⟩ := List.getElem?_of_mem ho
      obtain ⟨d, hd', hs⟩ := plain_dst hp hj
      rw [hd] at hd'; injection hd' with hd'; subst hd'
      rw [hsrc] at hs; cases hs
    | some i =>
      obtain ⟨o, ho, hd⟩ := srcOf_get hsrc
      refine (putAll_at ops _ a0 i t _ ?_ ⟨o, ho, hd⟩ ?_ (by rw [← hI.tmps]; exact hts)).symm
      · unfold valsOf; rw [List.getElem?_map, ho]; simp only [Option.map_some, hd]
      · intro j oj hj hoj hdj
        obtain ⟨d, hd', hs⟩ := plain_dst hp hoj
        rw [hdj] at hd'; injection hd' with hd'; subst hd'
        rw [hsrc] at hs; injection hs with hs; omega
  have htm : a.tmps = (putAll ops (valsOf ops a) a0).tmps := by
    apply Array.ext
    · rw [h1, hI.tmps]
    · intro t h3 h4
      have := ht t h3
      rw [Array.getD_eq_getD_getElem?, Array.getD_eq_getD_getElem?, Array.getElem?_eq_getElem h3, Array.getElem?_eq_getElem h4] at this
      simpa using this
  have hdf : a.defers = (putAll ops (valsOf ops a) a0).defers := by rw [h2]; exact hI.defers
  cases a; generalize hx : putAll ops _ a0 = x at *
  cases x; simp only at htm hdf; subst htm; subst hdf; rfl

theorem wp_of_opOk {o : Oper} {a : Act} {w : World} {R : Value → World → Prop} {K : Act → World → Prop} (h : OpOk P o a.eval w R) (hK : ∀ v w', R v w' → K (a.put o.dst v) w') : o.wp P a w K Q := by
  unfold OpOk at h
  unfold Oper.wp
  generalize (execOp a.eval o).run P w = r at *
  cases r with
  | ok n w' =>
    cases n <;> simp only [Oper.upon] at * <;> first | exact h.elim | exact hK _ _ h | skip
    exact Calls.mono h (fun e w'' he => by obtain ⟨v, rfl, hr⟩ := he; exact hK _ _ hr)
  | halt x w' => simp only at h

theorem wpAny_rely {ops : List Oper} {a0 : Act} {C : World → Prop} {sp : Nat → Value → World → Prop} {w0 : World} (hp : plainB ops = true) (hst : ∀ i v w w', sp i v w → Below w.heap.size w w' → sp i v w')
    (hsz : ∀ o ∈ ops, ∀ d, o.dst = some d → d < a0.tmps.size)
    (hop : ∀ i o, ops[i]? = some o → Ob P ops a0 C sp i o) (hg : ∀ i o g b, ops[i]? = some o → o.guard = some (g, b) → g ∈ waits ops i)
    (hend : ∀ (vs : List Value) (w : World), vs.length = ops.length → (∀ i v, vs[i]? = some v → sp i v w) → C w → Below w0.heap.size w0 w → Q .normal (putAll ops vs a0) w) :
    ∀ (fuel : Nat) (listed : Array Bool) (a : Act) (w : World), todo ops listed ≤ fuel → Inv ops a0 C sp w0 listed a w → wpAny P .any ops.toArray Q fuel listed a w := by
  have hfin : ∀ (listed : Array Bool) (a : Act) (w : World), Inv ops a0 C sp w0 listed a w → Region.ready .any ops.toArray listed = [] → Q .normal a w := by
    intro listed a w hI hr
    have hall := none_ready hp hI.size hr
    rw [hI.act hp hall]
    refine hend _ w (by simp [valsOf]) (fun i v hv => ?_) hI.cls hI.below
    unfold valsOf at hv
    rw [List.getElem?_map] at hv
    cases ho : ops[i]? with
    | none => rw [ho] at hv; cases hv
    | some o =>
      rw [ho] at hv
      obtain ⟨d, hd, _⟩ := plain_dst hp ho
      simp only [Option.map_some, hd, Option.some.injEq] at hv
      rw [← hv]
      exact hI.new i o d ho (hall i (List.getElem?_eq_some_iff.1 ho).1) hd
  intro fuel
  induction fuel with
  | zero =>
    intro listed a w ht hI
    have hr : Region.ready .any ops.toArray listed = [] := by
      rw [List.eq_nil_iff_forall_not_mem]
      intro i hi
      obtain ⟨h1, h2, _⟩ := (ready_iff hI.size).1 hi
      have : i ∈ (List.range ops.length).filter fun i => !listed.getD i false := List.mem_filter.2 ⟨List.mem_range.2 h1, by rw [h2]; rfl⟩
      unfold todo at ht
      have := List.length_pos_of_mem this
      omega
    exact ⟨hr, hfin listed a w hI hr⟩
  | succ fuel ih =>
    intro listed a w ht hI
    refine ⟨hfin listed a w hI, fun i hi => ?_⟩
    obtain ⟨h1, h2, h3⟩ := (ready_iff hI.size).1 hi
    have ho : ops[i]? = some ops[i] := List.getElem?_eq_getElem h1
    generalize ops[i] = o at ho
    have hless : todo ops (listed.setIfInBounds i true) ≤ fuel := by
      have : todo ops (listed.setIfInBounds i true) < todo ops listed := by
        unfold todo
        refine filter_less (i := i) (fun j hj => ?_) (by rw [h2]; rfl) ?_ _ (List.mem_range.2 h1)
        · rw [listed_set _ _ _ (by rw [hI.size]; exact h1)] at hj
          by_cases hji : j = i
          · rw [if_pos hji] at hj; cases hj
          · rwa [if_neg hji] at hj
        · rw [listed_set _ _ _ (by rw [hI.size]; exact h1), if_pos rfl]; rfl
      omega
    have hnext : ∀ v w', Below w.heap.size w w' → C w' → sp i v w' → wpAny P .any ops.toArray Q fuel (listed.setIfInBounds i true) (a.put o.dst v) w' :=
      fun v w' hb hC hv => ih _ _ _ hless (hI.put hp hst hsz ho h3 hb hC hv)
    have hfeed : Feeds ops a0 sp i o a.eval w := by
      refine ⟨fun t _ => ?_, fun _ => rfl, fun _ => rfl, fun _ => rfl⟩
      unfold kind
      cases hsrc : srcOf ops t with
      | none => exact hI.old t (fun j hj => by rw [hsrc] at hj; cases hj)
      | some j =>
        simp only
        by_cases hc : (waits ops i).contains j
        · rw [if_pos hc]
          obtain ⟨oj, hoj, hdj⟩ := srcOf_get hsrc
          exact hI.new j oj t hoj (h3 j (by simpa using hc)) hdj
        · rw [if_neg hc]
          by_cases hc2 : (waits ops j).contains i
          · rw [if_pos hc2]
            refine hI.old t (fun k hk => ?_)
            rw [hsrc] at hk; injection hk with hk; subst hk
            cases hl : listed.getD j false
            · rfl
            · have := hI.shut j hl i (by simpa using hc2); rw [h2] at this; cases this
          · rw [if_neg hc2]; trivial
    have hob := hop i o ho a.eval w hI.cls hfeed
    unfold wpOp
    simp only [List.getElem?_toArray, ho]
    cases hgd : o.guard with
    | none =>
      rw [hgd] at hob
      have hwt : Region.wanted o (yielded ops.toArray a.tmps) = true := by unfold Region.wanted; rw [hgd]
      rw [if_pos hwt]
      exact .inl (wp_of_opOk hob fun v w' ⟨hb, hC, hv⟩ => hnext v w' hb hC hv)
    | some gb =>
      obtain ⟨g, b⟩ := gb
      rw [hgd] at hob
      have hlg := h3 g (hg i o g b ho hgd)
      have hgl : g < ops.length := by
        rcases Nat.lt_or_ge g ops.length with h | h
        · exact h
        · rw [Array.getD_eq_getD_getElem?, Array.getElem?_eq_none (by rw [hI.size]; exact h)] at hlg; cases hlg
      have hog : ops[g]? = some ops[g] := List.getElem?_eq_getElem hgl
      generalize ops[g] = og at hog
      obtain ⟨dg, hdg, _⟩ := plain_dst hp hog
      have hsg := hI.new g og dg hog hlg hdg
      obtain ⟨hy, hn⟩ := hob _ hsg
      have hdgs : dg < a.tmps.size := by rw [hI.tmps]; exact hsz og (List.mem_of_getElem? hog) dg hdg
      have hyl : yielded ops.toArray a.tmps g = match a.tmps.getD dg undef with | .bool x => some x | _ => none := by
        unfold yielded
        simp only [List.getElem?_toArray, hog, Option.bind_some, hdg, Array.getElem?_eq_getElem hdgs, Array.getD_eq_getD_getElem?, Option.getD_some]
        cases a.tmps[dg] <;> rfl
      by_cases hv : a.tmps.getD dg undef = .bool b
      · have hwt : Region.wanted o (yielded ops.toArray a.tmps) = true := by
          unfold Region.wanted; rw [hgd]; simp only [hyl, hv]; simp
        rw [if_pos hwt]
        exact .inl (wp_of_opOk (hy hv) fun v w' ⟨hb, hC, hv⟩ => hnext v w' hb hC hv)
      · have hwt : Region.wanted o (yielded ops.toArray a.tmps) = false := by
          unfold Region.wanted; rw [hgd]
          simp only [hyl]
          generalize a.tmps.getD dg undef = x at *
          cases x <;> simp
          rename_i y
          intro e; subst e; exact hv rfl
        rw [hwt]
        simp only [Bool.false_eq_true, if_false]
        exact hnext undef w (Below.refl _ _) hI.cls (hn hv)

/-- every guard is waited for -/
def guardB (ops : List Oper) : Bool := (List.range ops.length).all fun i => match ops[i]? with | some o => (match o.guard with | some (g, _) => (waits ops i).contains g | none => true) | none => true
/-- every slot that is written is there -/
def roomB (ops : List Oper) (n : Nat) : Bool := ops.all fun o => match o.dst with | some d => decide (d < n) | none => true

theorem wp_region_rely {id : Nat} {ops : List Oper} {a0 : Act} {w0 : World} (C : World → Prop) (sp : Nat → Value → World → Prop) (hm : P.follows .mixedOrders = true) (hp : plainB ops = true) (hg : guardB ops = true) (hr : roomB ops a0.tmps.size = true)
    (hst : ∀ i v w w', sp i v w → Below w.heap.size w w' → sp i v w') (hC : C w0.drew) (hop : ∀ i o, ops[i]? = some o → Ob P ops a0 C sp i o)
    (hend : ∀ (vs : List Value) (w : World), vs.length = ops.length → (∀ i v, vs[i]? = some v → sp i v w) → C w → Below w0.heap.size w0 w → Q .normal (putAll ops vs a0) w) :
    (Code.region id ops.toArray true).wp P Q a0 w0 := by
  refine wp_region_any hm ?_
  have hrep : ∀ i, (Array.replicate ops.length false).getD i false = false := by
    intro i; rw [Array.getD_eq_getD_getElem?, Array.getElem?_replicate]; split <;> rfl
  refine wpAny_rely (w0 := w0) hp hst ?_ hop ?_ hend _ _ _ _ ?_ ?_
  · intro o ho d hd
    unfold roomB at hr
    rw [List.all_eq_true] at hr
    have := hr o ho
    rw [hd] at this; simpa using this
  · intro i o g b ho hgd
    unfold guardB at hg
    rw [List.all_eq_true] at hg
    have := hg i (List.mem_range.2 (List.getElem?_eq_some_iff.1 ho).1)
    rw [ho] at this
    simp only [hgd] at this
    simpa using this
  · unfold todo
    simp only [List.size_toArray]
    exact Nat.le_trans (List.length_filter_le _ _) (by simp)
  · simp only [List.size_toArray]
    refine ⟨by simp, hC, (Below.refl _ _).drew, rfl, rfl, fun t _ => rfl, fun i o d _ hl => ?_, fun i hl => ?_⟩
    · rw [hrep] at hl; cases hl
    · rw [hrep] at hl; cases hl

/-- the obligations of a list of operations, the first of which is the k-th -/
def ObAll (P : Program) (ops : List Oper) (a0 : Act) (C : World → Prop) (sp : Nat → Value → World → Prop) : Nat → List Oper → Prop
  | _, [] => True
  | k, o :: os => Ob P ops a0 C sp k o ∧ ObAll P ops a0 C sp (k + 1) os
theorem ObAll.get {ops : List Oper} {a0 : Act} {C : World → Prop} {sp : Nat → Value → World → Prop} : ∀ (l : List Oper) (k : Nat), ObAll P ops a0 C sp k l → ∀ i o, l[i]? = some o → Ob P ops a0 C sp (k + i) o
  | [], _, _, i, o, h => by simp at h
  | x :: l, k, h, 0, o, ho => by simp at ho; subst ho; exact h.1
  | x :: l, k, h, i + 1, o, ho => by
    have := ObAll.get l (k + 1) h.2 i o (by simpa using ho)
    rwa [Nat.add_assoc, Nat.add_comm 1 i] at this
theorem wp_region_relies {id : Nat} {ops : List Oper} {a0 : Act} {w0 : World} (C : World → Prop) (sp : Nat → Value → World → Prop) (hm : P.follows .mixedOrders = true) (hp : plainB ops = true) (hg : guardB ops = true) (hr : roomB ops a0.tmps.size = true)
    (hst : ∀ i v w w', sp i v w → Below w.heap.size w w' → sp i v w') (hC : C w0.drew) (hop : ObAll P ops a0 C sp 0 ops)
    (hend : ∀ (vs : List Value) (w : World), vs.length = ops.length → (∀ i v, vs[i]? = some v → sp i v w) → C w → Below w0.heap.size w0 w → Q .normal (putAll ops vs a0) w) :
    (Code.region id ops.toArray true).wp P Q a0 w0 :=
  wp_region_rely C sp hm hp hg hr hst hC (fun i o ho => by have := ObAll.get ops 0 hop i o ho; rwa [Nat.zero_add] at this) hend

theorem ok_value {o : Oper} {ρ : Operand → Value} {w w' : World} {v : Value} {R : Value → World → Prop} (h : (execOp ρ o).run P w = .ok (.value v) w') (hr : R v w') : OpOk P o ρ w R := by
  unfold OpOk; rw [h]; exact hr
theorem ok_call {o : Oper} {ρ : Operand → Value} {w : World} {f : FuncId} {args : Array Value} {R : Value → World → Prop} (h : (execOp ρ o).run P w = .ok (.enter f args) w) (hc : Calls P f args w fun e w'' => ∃ v, e = .returned v ∧ R v w'') : OpOk P o ρ w R := by
  unfold OpOk; rw [h]; exact hc
/-- an obligation whose value is known, and which leaves the world as it is -/
theorem ob_pure {ops : List Oper} {a0 : Act} {C : World → Prop} {sp : Nat → Value → World → Prop} {i : Nat} {o : Oper} (hg : o.guard = none) (v : Value)
    (h : ∀ ρ w, C w → Feeds ops a0 sp i o ρ w → (execOp ρ o).run P w = .ok (.value v) w) (hs : ∀ w, sp i v w) : Ob P ops a0 C sp i o := by
  intro ρ w hC hf
  rw [hg]
  exact ok_value (h ρ w hC hf) ⟨Below.refl _ _, hC, hs w⟩
theorem ob_move {ops : List Oper} {a0 : Act} {C : World → Prop} {sp : Nat → Value → World → Prop} {i : Nat} {o : Oper} (hg : o.guard = none) (t : Nat) (ho : o.op = .move (.tmp t) ∨ o.op = .assign (.tmp t)) (v : Value) (hk : kind ops i t = some none) (hv : a0.eval (.tmp t) = v) (hs : ∀ w, sp i v w) : Ob P ops a0 C sp i o := by
  refine ob_pure hg v (fun ρ w _ hf => ?_) hs
  have hmem : Operand.tmp t ∈ o.op.operands := by rcases ho with ho | ho <;> rw [ho] <;> simp [Op.operands]
  have := hf.1 t hmem
  rw [hk] at this
  simp only at this
  rcases ho with ho | ho <;> unfold execOp <;> rw [ho] <;> simp only [this, hv] <;> rfl

/-- what is said of a value: which one it is; or that it is a new slice of bytes that reads so -/
inductive Spec where
  | eq (v : Value)
  | bytes (zs : List Nat)
def Spec.holds : Spec → Value → World → Prop
  | .eq x, v, _ => v = x
  | .bytes zs, v, w => ∃ g, v = .slice (some ⟨g, 0, none⟩) zs.length zs.length ∧ g < w.heap.size ∧ (∀ i, i < zs.length → w.cell? ⟨g, i, none⟩ = some (.int .u8 ((zs.getD i 0 : Nat) : Int)))
def spOf (l : List Spec) (i : Nat) (v : Value) (w : World) : Prop := match l[i]? with | some s => s.holds v w | none => True
theorem spOf_stable (l : List Spec) (i : Nat) (v : Value) (w w' : World) (h : spOf l i v w) (hb : Below w.heap.size w w') : spOf l i v w' := by
  unfold spOf at *
  cases hs : l[i]? with
  | none => trivial
  | some s =>
    rw [hs] at h
    cases s with
    | eq x => exact h
    | bytes zs =>
      obtain ⟨g, h1, h2, h3⟩ := h
      exact ⟨g, h1, Nat.lt_of_lt_of_le h2 hb.size, fun i hi => (hb.cell (p := ⟨g, i, none⟩) h2).trans (h3 i hi)⟩
end
end Go.Proofs.YtginbellakkliaaDoor

/- A region that draws its order and makes or writes memory: one obligation for each operation, over whatever has been done before. -/
namespace Go.Proofs.YtginbellakkliaaDoor
open Go.RowKit Go.Sort

section
variable {P : Program} {Q : Exit → Act → World → Prop}

/-- what has been done so far: of each operation its value, or none -/
abbrev Done := Nat → Option Value
def Done.set (f : Done) (i : Nat) (v : Value) : Done := fun j => if j = i then some v else f j
/-- what an operation finds in its operands -/
def FeedsG (ops : List Oper) (a0 : Act) (i : Nat) (o : Oper) (ρ : Operand → Value) (f : Done) : Prop :=
  (∀ t, Operand.tmp t ∈ o.op.operands → match kind ops i t with | some (some j) => f j = some (ρ (.tmp t)) | some none => ρ (.tmp t) = a0.eval (.tmp t) | none => True) ∧
  (∀ v, ρ (.const v) = v) ∧ (∀ g, ρ (.global g) = .pointer (some ⟨g, 0, none⟩)) ∧ (∀ f, ρ (.func f) = .func (.func f) #[] #[])
/-- an operation's obligation -/
def ObG (P : Program) (ops : List Oper) (a0 : Act) (F : Done → World → Prop) (i : Nat) (o : Oper) : Prop :=
  ∀ (ρ : Operand → Value) (f : Done) (w : World), F f w → f i = none → (∀ j ∈ waits ops i, (f j).isSome = true) → (∀ j, (f j).isSome = true → ∀ k ∈ waits ops j, (f k).isSome = true) → FeedsG ops a0 i o ρ f → OpOk P o ρ w fun v w' => F (f.set i v) w'

/-- what holds between the operations -/
structure InvG (ops : List Oper) (a0 : Act) (F : Done → World → Prop) (listed : Array Bool) (a : Act) (f : Done) (w : World) : Prop where
  size : listed.size = ops.length
  cls : F f w
  defers : a.defers = a0.defers
  tmps : a.tmps.size = a0.tmps.size
  old : ∀ t, (∀ i, srcOf ops t = some i → listed.getD i false = false) → a.tmps.getD t undef = a0.tmps.getD t undef
  new : ∀ i o d, ops[i]? = some o → listed.getD i false = true → o.dst = some d → f i = some (a.tmps.getD d undef)
  noneAt : ∀ i, listed.getD i false = false → f i = Option.none
  shut : ∀ i, listed.getD i false = true → ∀ j ∈ waits ops i, listed.getD j false = true

theorem InvG.isSome_iff {ops : List Oper} {a0 : Act} {F : Done → World → Prop} {listed : Array Bool} {a : Act} {f : Done} {w : World} (hp : plainB ops = true) (hI : InvG ops a0 F listed a f w) (j : Nat) : (f j).isSome = true ↔ listed.getD j false = true := by
  constructor
  · intro h
    cases hl : listed.getD j false
    · rw [hI.noneAt j hl] at h; cases h
    · rfl
  · intro h
    have hj : j < ops.length := by
      rcases Nat.lt_or_ge j ops.length with h1 | h1
      · exact h1
      · rw [Array.getD_eq_getD_getElem?, Array.getElem?_eq_none (by rw [hI.size]; exact h1)] at h; cases h
    have ho : ops[j]? = Option.some ops[j] := List.getElem?_eq_getElem hj
    obtain ⟨d, hd, _⟩ := plain_dst hp ho
    rw [hI.new j _ d ho h hd]; rfl

theorem InvG.put {ops : List Oper} {a0 : Act} {F : Done → World → Prop} {listed : Array Bool} {a : Act} {f : Done} {w w' : World} (hp : plainB ops = true)
    (hsz : ∀ o ∈ ops, ∀ d, o.dst = some d → d < a0.tmps.size)
    (hI : InvG ops a0 F listed a f w) {i : Nat} {o : Oper} (ho : ops[i]? = Option.some o) (hw : ∀ j ∈ waits ops i, listed.getD j false = true) {v : Value} (hF : F (f.set i v) w') :
    InvG ops a0 F (listed.setIfInBounds i true) (a.put o.dst v) (f.set i v) w' := by
  have hi : i < listed.size := by rw [hI.size]; exact (List.getElem?_eq_some_iff.1 ho).1
  obtain ⟨d, hd, hsrc⟩ := plain_dst hp ho
  have hds : d < a.tmps.size := by rw [hI.tmps]; exact hsz o (List.mem_of_getElem? ho) d hd
  rw [hd]
  refine ⟨by simp [hI.size], hF, hI.defers, by simp [Act.put, hI.tmps], fun t ht => ?_, fun j oj dj hoj hl hdj => ?_, fun j hl => ?_, fun j hl k hk => ?_⟩
  · rw [put_getD]
    have hne : t ≠ d := by
      rintro rfl
      have := ht i hsrc
      rw [listed_set _ _ _ hi, if_pos rfl] at this; cases this
    rw [if_neg hne]
    refine hI.old t fun j hj => ?_
    have := ht j hj
    rw [listed_set _ _ _ hi] at this
    by_cases hji : j = i
    · rw [if_pos hji] at this; cases this
    · rwa [if_neg hji] at this
  · rw [put_getD]
    obtain ⟨dj', hdj', hsj⟩ := plain_dst hp hoj
    rw [hdj] at hdj'
    injection hdj' with hdj'
    subst hdj'
    unfold Done.set
    by_cases hji : j = i
    · subst hji
      have e : dj = d := by
        rw [ho] at hoj; injection hoj with hoj; subst hoj; rw [hd] at hdj; injection hdj with hdj; exact hdj.symm
      rw [if_pos rfl, if_pos e, if_pos hds]
    · rw [listed_set _ _ _ hi, if_neg hji] at hl
      have hne : dj ≠ d := by
        rintro rfl
        rw [hsrc] at hsj; injection hsj with hsj; exact hji hsj.symm
      rw [if_neg hji, if_neg hne]
      exact hI.new j oj dj hoj hl hdj
  · rw [listed_set _ _ _ hi] at hl
    unfold Done.set
    by_cases hji : j = i
    · rw [if_pos hji] at hl; cases hl
    · rw [if_neg hji] at hl ⊢; exact hI.noneAt j hl
  · rw [listed_set _ _ _ hi] at hl ⊢
    by_cases hk2 : k = i
    · rw [if_pos hk2]
    · rw [if_neg hk2]
      by_cases hji : j = i
      · subst hji; exact hw k hk
      · rw [if_neg hji] at hl; exact hI.shut j hl k hk

theorem InvG.act {ops : List Oper} {a0 : Act} {F : Done → World → Prop} {listed : Array Bool} {a : Act} {f : Done} {w : World} (hp : plainB ops = true)
    (hI : InvG ops a0 F listed a f w) : (∀ i, i < ops.length → listed.getD i false = true) → a = putAll ops (valsOf ops a) a0 := by
  intro hall
  have hJ : Inv ops a0 (fun _ => True) (fun _ _ _ => True) w listed a w :=
    ⟨hI.size, trivial, Below.refl _ _, hI.defers, hI.tmps, hI.old, fun _ _ _ _ _ _ => trivial, hI.shut⟩
  exact hJ.act hp hall

theorem wpAny_relyG {ops : List Oper} {a0 : Act} {F : Done → World → Prop} (hp : plainB ops = true)
    (hsz : ∀ o ∈ ops, ∀ d, o.dst = some d → d < a0.tmps.size)
    (hop : ∀ i o, ops[i]? = some o → o.guard = none ∧ ObG P ops a0 F i o)
    (hend : ∀ (vs : List Value) (w : World), vs.length = ops.length → F (fun i => vs[i]?) w → Q .normal (putAll ops vs a0) w) :
    ∀ (fuel : Nat) (listed : Array Bool) (a : Act) (f : Done) (w : World), todo ops listed ≤ fuel → InvG ops a0 F listed a f w → wpAny P .any ops.toArray Q fuel listed a w := by
  have hfin : ∀ (listed : Array Bool) (a : Act) (f : Done) (w : World), InvG ops a0 F listed a f w → Region.ready .any ops.toArray listed = [] → Q .normal a w := by
    intro listed a f w hI hr
    have hall := none_ready hp hI.size hr
    rw [hI.act hp hall]
    refine hend _ w (by simp [valsOf]) ?_
    have e : (fun i => (valsOf ops a)[i]?) = f := by
      funext i
      unfold valsOf
      rw [List.getElem?_map]
      cases ho : ops[i]? with
      | none =>
        have : ops.length ≤ i := by simpa using ho
        rw [hI.noneAt i (by rw [Array.getD_eq_getD_getElem?, Array.getElem?_eq_none (by rw [hI.size]; exact this)]; rfl)]; rfl
      | some o =>
        obtain ⟨d, hd, _⟩ := plain_dst hp ho
        rw [hI.new i o d ho (hall i (List.getElem?_eq_some_iff.1 ho).1) hd]
        simp only [Option.map_some, hd]
    rw [e]; exact hI.cls
  intro fuel
  induction fuel with
  | zero =>
    intro listed a f w ht hI
    have hr : Region.ready .any ops.toArray listed = [] := by
      rw [List.eq_nil_iff_forall_not_mem]
      intro i hi
      obtain ⟨h1, h2, _⟩ := (ready_iff hI.size).1 hi
      have : i ∈ (List.range ops.length).filter fun i => !listed.getD i false := List.mem_filter.2 ⟨List.mem_range.2 h1, by rw [h2]; rfl⟩
      unfold todo at ht
      have := List.length_pos_of_mem this
      omega
    exact ⟨hr, hfin listed a f w hI hr⟩
  | succ fuel ih =>
    intro listed a f w ht hI
    refine ⟨hfin listed a f w hI, fun i hi => ?_⟩
    obtain ⟨h1, h2, h3⟩ := (ready_iff hI.size).1 hi
    have ho : ops[i]? = some ops[i] := List.getElem?_eq_getElem h1
    generalize ops[i] = o at ho
    have hless : todo ops (listed.setIfInBounds i true) ≤ fuel := by
      have : todo ops (listed.setIfInBounds i true) < todo ops listed := by
        unfold todo
        refine filter_less (i := i) (fun j hj => ?_) (by rw [h2]; rfl) ?_ _ (List.mem_range.2 h1)
        · rw [listed_set _ _ _ (by rw [hI.size]; exact h1)] at hj
          by_cases hji : j = i
          · rw [if_pos hji] at hj; cases hj
          · rwa [if_neg hji] at hj
        · rw [listed_set _ _ _ (by rw [hI.size]; exact h1), if_pos rfl]; rfl
      omega
    have hfeed : FeedsG ops a0 i o a.eval f := by
      refine ⟨fun t _ => ?_, fun _ => rfl, fun _ => rfl, fun _ => rfl⟩
      unfold kind
      cases hsrc : srcOf ops t with
      | none => exact hI.old t (fun j hj => by rw [hsrc] at hj; cases hj)
      | some j =>
        simp only
        by_cases hc : (waits ops i).contains j
        · rw [if_pos hc]
          obtain ⟨oj, hoj, hdj⟩ := srcOf_get hsrc
          exact hI.new j oj t hoj (h3 j (by simpa using hc)) hdj
        · rw [if_neg hc]
          by_cases hc2 : (waits ops j).contains i
          · rw [if_pos hc2]
            refine hI.old t (fun k hk => ?_)
            rw [hsrc] at hk; injection hk with hk; subst hk
            cases hl : listed.getD j false
            · rfl
            · have := hI.shut j hl i (by simpa using hc2); rw [h2] at this; cases this
          · rw [if_neg hc2]; trivial
    obtain ⟨hgd, hob⟩ := hop i o ho
    have hob := hob a.eval f w hI.cls (hI.noneAt i h2) (fun j hj => (hI.isSome_iff hp j).2 (h3 j hj)) (fun j hj k hk => (hI.isSome_iff hp k).2 (hI.shut j ((hI.isSome_iff hp j).1 hj) k hk)) hfeed
    unfold wpOp
    simp only [List.getElem?_toArray, ho]
    have hwt : Region.wanted o (yielded ops.toArray a.tmps) = true := by unfold Region.wanted; rw [hgd]
    rw [if_pos hwt]
    exact .inl (wp_of_opOk hob fun v w' hF => ih _ _ _ _ hless (hI.put hp hsz ho h3 hF))

def bareB (ops : List Oper) : Bool := ops.all fun o => o.guard.isNone
/-- the obligations of a list of operations, the first of which is the k-th -/
def ObGAll (P : Program) (ops : List Oper) (a0 : Act) (F : Done → World → Prop) : Nat → List Oper → Prop
  | _, [] => True
  | k, o :: os => ObG P ops a0 F k o ∧ ObGAll P ops a0 F (k + 1) os
theorem ObGAll.get {ops : List Oper} {a0 : Act} {F : Done → World → Prop} : ∀ (l : List Oper) (k : Nat), ObGAll P ops a0 F k l → ∀ i o, l[i]? = some o → ObG P ops a0 F (k + i) o
  | [], _, _, i, o, h => by simp at h
  | x :: l, k, h, 0, o, ho => by simp at ho; subst ho; exact h.1
  | x :: l, k, h, i + 1, o, ho => by
    have := ObGAll.get l (k + 1) h.2 i o (by simpa using ho)
    rwa [Nat.add_assoc, Nat.add_comm 1 i] at this
theorem wp_region_reliesG {id : Nat} {ops : List Oper} {a0 : Act} {w0 : World} (F : Done → World → Prop) (hm : P.follows .mixedOrders = true) (hp : plainB ops = true) (hg : bareB ops = true) (hr : roomB ops a0.tmps.size = true)
    (hF : F (fun _ => none) w0.drew) (hop : ObGAll P ops a0 F 0 ops)
    (hend : ∀ (vs : List Value) (w : World), vs.length = ops.length → F (fun i => vs[i]?) w → Q .normal (putAll ops vs a0) w) :
    (Code.region id ops.toArray true).wp P Q a0 w0 := by
  refine wp_region_any hm ?_
  have hrep : ∀ i, (Array.replicate ops.length false).getD i false = false := by
    intro i; rw [Array.getD_eq_getD_getElem?, Array.getElem?_replicate]; split <;> rfl
  refine wpAny_relyG (F := F) hp ?_ ?_ hend _ _ _ (fun _ => none) _ ?_ ?_
  · intro o ho d hd
    unfold roomB at hr
    rw [List.all_eq_true] at hr
    have := hr o ho
    rw [hd] at this; simpa using this
  · intro i o ho
    refine ⟨?_, ?_⟩
    · unfold bareB at hg
      rw [List.all_eq_true] at hg
      have := hg o (List.mem_of_getElem? ho)
      cases hgd : o.guard with
      | none => rfl
      | some x => rw [hgd] at this; cases this
    · have := ObGAll.get ops 0 hop i o ho; rwa [Nat.zero_add] at this
  · unfold todo
    simp only [List.size_toArray]
    exact Nat.le_trans (List.length_filter_le _ _) (by simp)
  · simp only [List.size_toArray]
    refine ⟨by simp, hF, rfl, rfl, fun t _ => rfl, fun i o d _ hl => ?_, fun _ _ => rfl, fun i hl => ?_⟩
    · rw [hrep] at hl; cases hl
    · rw [hrep] at hl; cases hl
end
end Go.Proofs.YtginbellakkliaaDoor

/- A region that draws its order, makes memory and stores: one obligation for each operation, over whatever has been done before; an operation may write no slot. -/
namespace Go.Proofs.YtginbellakkliaaDoor
open Go.RowKit Go.Sort

section
variable {P : Program} {Q : Exit → Act → World → Prop}

/-- no slot is written twice; edges go back; an operation may write none -/
def plainS (ops : List Oper) : Bool :=
  ((List.range ops.length).all fun i => (match ops[i]? with | some o => (match o.dst with | some d => srcOf ops d == some i | none => true) | none => false)) &&
  ((List.range ops.length).all fun i => (waits ops i).all fun j => decide (j < i))
theorem plainS_dst {ops : List Oper} (h : plainS ops = true) {i : Nat} {o : Oper} {d : Nat} (ho : ops[i]? = some o) (hd : o.dst = some d) : srcOf ops d = some i := by
  simp only [plainS, Bool.and_eq_true, List.all_eq_true, List.mem_range] at h
  have := h.1 i (List.getElem?_eq_some_iff.1 ho).1
  rw [ho] at this
  simp only [hd] at this
  simpa using this
theorem plainS_back {ops : List Oper} (h : plainS ops = true) {i j : Nat} (hj : j ∈ waits ops i) : j < i ∧ i < ops.length := by
  have hi : i < ops.length := by
    rcases Nat.lt_or_ge i ops.length with h1 | h1
    · exact h1
    · unfold waits at hj; rw [List.getElem?_eq_none h1] at hj; cases hj
  simp only [plainS, Bool.and_eq_true, List.all_eq_true, List.mem_range] at h
  exact ⟨by simpa using h.2 i hi j hj, hi⟩
/-- the slot of an operation, nothing if it writes none -/
def slotOf (o : Oper) (a : Act) : Value := match o.dst with | some d => a.tmps.getD d undef | none => undef
/-- what is kept of an operation's value -/
def keptOf (o : Oper) (v : Value) : Value := match o.dst with | some _ => v | none => undef
/-- an operation's obligation -/
def ObS (P : Program) (ops : List Oper) (a0 : Act) (F : Done → World → Prop) (i : Nat) (o : Oper) : Prop :=
  ∀ (ρ : Operand → Value) (f : Done) (w : World), F f w → f i = none → (∀ j ∈ waits ops i, (f j).isSome = true) → (∀ j, (f j).isSome = true → ∀ k ∈ waits ops j, (f k).isSome = true) → FeedsG ops a0 i o ρ f → OpOk P o ρ w fun v w' => F (f.set i (keptOf o v)) w'

/-- what holds between the operations -/
structure InvS (ops : List Oper) (a0 : Act) (F : Done → World → Prop) (listed : Array Bool) (a : Act) (f : Done) (w : World) : Prop where
  size : listed.size = ops.length
  cls : F f w
  defers : a.defers = a0.defers
  tmps : a.tmps.size = a0.tmps.size
  old : ∀ t, (∀ i, srcOf ops t = some i → listed.getD i false = false) → a.tmps.getD t undef = a0.tmps.getD t undef
  new : ∀ i o, ops[i]? = some o → listed.getD i false = true → f i = some (slotOf o a)
  noneAt : ∀ i, listed.getD i false = false → f i = Option.none
  shut : ∀ i, listed.getD i false = true → ∀ j ∈ waits ops i, listed.getD j false = true

theorem InvS.isSome_iff {ops : List Oper} {a0 : Act} {F : Done → World → Prop} {listed : Array Bool} {a : Act} {f : Done} {w : World} (hI : InvS ops a0 F listed a f w) (j : Nat) : (f j).isSome = true ↔ listed.getD j false = true := by
  constructor
  · intro h
    cases hl : listed.getD j false
    · rw [hI.noneAt j hl] at h; cases h
    · rfl
  · intro h
    have hj : j < ops.length := by
      rcases Nat.lt_or_ge j ops.length with h1 | h1
      · exact h1
      · rw [Array.getD_eq_getD_getElem?, Array.getElem?_eq_none (by rw [hI.size]; exact h1)] at h; cases h
    rw [hI.new j _ (List.getElem?_eq_getElem hj) h]; rfl

theorem InvS.put {ops : List Oper} {a0 : Act} {F : Done → World → Prop} {listed : Array Bool} {a : Act} {f : Done} {w w' : World} (hp : plainS ops = true)
    (hsz : ∀ o ∈ ops, ∀ d, o.dst = some d → d < a0.tmps.size)
    (hI : InvS ops a0 F listed a f w) {i : Nat} {o : Oper} (ho : ops[i]? = Option.some o) (hw : ∀ j ∈ waits ops i, listed.getD j false = true) {v : Value} (hF : F (f.set i (keptOf o v)) w') :
    InvS ops a0 F (listed.setIfInBounds i true) (a.put o.dst v) (f.set i (keptOf o v)) w' := by
  have hi : i < listed.size := by rw [hI.size]; exact (List.getElem?_eq_some_iff.1 ho).1
  have hshut : ∀ j, (listed.setIfInBounds i true).getD j false = true → ∀ k ∈ waits ops j, (listed.setIfInBounds i true).getD k false = true := by
    intro j hl k hk
    rw [listed_set _ _ _ hi] at hl ⊢
    by_cases hk2 : k = i
    · rw [if_pos hk2]
    · rw [if_neg hk2]
      by_cases hji : j = i
      · subst hji; exact hw k hk
      · rw [if_neg hji] at hl; exact hI.shut j hl k hk
  have hnone : ∀ j, (listed.setIfInBounds i true).getD j false = false → (f.set i (keptOf o v)) j = Option.none := by
    intro j hl
    rw [listed_set _ _ _ hi] at hl
    unfold Done.set
    by_cases hji : j = i
    · rw [if_pos hji] at hl; cases hl
    · rw [if_neg hji] at hl ⊢; exact hI.noneAt j hl
  cases hd : o.dst with
  | none =>
    have ha : a.put none v = a := rfl
    rw [ha]
    refine ⟨by simp [hI.size], hF, hI.defers, hI.tmps, fun t ht => ?_, fun j oj hoj hl => ?_, hnone, hshut⟩
    · refine hI.old t fun j hj => ?_
      have := ht j hj
      rw [listed_set _ _ _ hi] at this
      by_cases hji : j = i
      · rw [if_pos hji] at this; cases this
      · rwa [if_neg hji] at this
    · unfold Done.set
      by_cases hji : j = i
      · subst hji
        rw [ho] at hoj; injection hoj with hoj; subst hoj
        rw [if_pos rfl]; unfold keptOf slotOf; rw [hd]
      · rw [listed_set _ _ _ hi, if_neg hji] at hl
        rw [if_neg hji]; exact hI.new j oj hoj hl
  | some d =>
    have hsrc := plainS_dst hp ho hd
    have hds : d < a.tmps.size := by rw [hI.tmps]; exact hsz o (List.mem_of_getElem? ho) d hd
    refine ⟨by simp [hI.size], hF, hI.defers, by simp [Act.put, hI.tmps], fun t ht => ?_, fun j oj hoj hl => ?_, hnone, hshut⟩
    · rw [put_getD]
      have hne : t ≠ d := by
        rintro rfl
        have := ht i hsrc
        rw [listed_set _ _ _ hi, if_pos rfl] at this; cases this
      rw [if_neg hne]
      refine hI.old t fun j hj => ?_
      have := ht j hj
      rw [listed_set _ _ _ hi] at this
      by_cases hji : j = i
      · rw [if_pos hji] at this; cases this
      · rwa [if_neg hji] at this
    · unfold Done.set
      by_cases hji : j = i
      · subst hji
        rw [ho] at hoj; injection hoj with hoj; subst hoj
        rw [if_pos rfl]; unfold keptOf slotOf; rw [hd]
        simp only
        rw [put_getD, if_pos rfl, if_pos hds]
      · rw [listed_set _ _ _ hi, if_neg hji] at hl
        rw [if_neg hji, hI.new j oj hoj hl]
        unfold slotOf
        cases hdj : oj.dst with
        | none => rfl
        | some dj =>
          simp only
          have hsj := plainS_dst hp hoj hdj
          have hne : dj ≠ d := by
            rintro rfl
            rw [hsrc] at hsj; injection hsj with hsj; exact hji hsj.symm
          rw [put_getD, if_neg hne]

theorem noneS_ready {ops : List Oper} (hp : plainS ops = true) {listed : Array Bool} (hs : listed.size = ops.length) (h : Region.ready .any ops.toArray listed = []) : ∀ i, i < ops.length → listed.getD i false = true := by
  intro i
  induction i using Nat.strongRecOn with
  | _ i ih =>
    intro hi
    cases hl : listed.getD i false
    · have : i ∈ Region.ready .any ops.toArray listed := (ready_iff hs).2 ⟨hi, hl, fun j hj => ih j (plainS_back hp hj).1 (Nat.lt_trans (plainS_back hp hj).1 hi)⟩
      rw [h] at this; cases this
    · rfl
theorem InvS.act {ops : List Oper} {a0 : Act} {F : Done → World → Prop} {listed : Array Bool} {a : Act} {f : Done} {w : World} (hp : plainS ops = true)
    (hI : InvS ops a0 F listed a f w) : a = putAll ops (valsOf ops a) a0 := by
  obtain ⟨h1, h2⟩ := putAll_size ops (valsOf ops a) a0
  have ht : ∀ t, t < a.tmps.size → a.tmps.getD t undef = (putAll ops (valsOf ops a) a0).tmps.getD t undef := by
    intro t hts
    cases hsrc : srcOf ops t with
    | none =>
      rw [putAll_none ops _ a0 t, hI.old t (fun i hi => by rw [hsrc] at hi; cases hi)]
      intro o ho hd
      obtain ⟨j, hj⟩ := List.getElem?_of_mem ho
      have hs := plainS_dst hp hj hd
      rw [hsrc] at hs; cases hs
    | some i =>
      obtain ⟨o, ho, hd⟩ := srcOf_get hsrc
      refine (putAll_at ops _ a0 i t _ ?_ ⟨o, ho, hd⟩ ?_ (by rw [← hI.tmps]; exact hts)).symm
      · unfold valsOf; rw [List.getElem?_map, ho]; simp only [Option.map_some, hd]
      · intro j oj hj hoj hdj
        have hs := plainS_dst hp hoj hdj
        rw [hsrc] at hs; injection hs with hs; omega
  have htm : a.tmps = (putAll ops (valsOf ops a) a0).tmps := by
    apply Array.ext
    · rw [h1, hI.tmps]
    · intro t h3 h4
      have := ht t h3
      rw [Array.getD_eq_getD_getElem?, Array.getD_eq_getD_getElem?, Array.getElem?_eq_getElem h3, Array.getElem?_eq_getElem h4] at this
      simpa using this
  have hdf : a.defers = (putAll ops (valsOf ops a) a0).defers := by rw [h2]; exact hI.defers
  cases a; generalize hx : putAll ops _ a0 = x at *
  cases x; simp only at htm hdf; subst htm; subst hdf; rfl

theorem wpAny_relyS {ops : List Oper} {a0 : Act} {F : Done → World → Prop} (hp : plainS ops = true)
    (hsz : ∀ o ∈ ops, ∀ d, o.dst = some d → d < a0.tmps.size)
    (hop : ∀ i o, ops[i]? = some o → o.guard = none ∧ ObS P ops a0 F i o)
    (hend : ∀ (vs : List Value) (w : World), vs.length = ops.length → F (fun i => vs[i]?) w → Q .normal (putAll ops vs a0) w) :
    ∀ (fuel : Nat) (listed : Array Bool) (a : Act) (f : Done) (w : World), todo ops listed ≤ fuel → InvS ops a0 F listed a f w → wpAny P .any ops.toArray Q fuel listed a w := by
  have hfin : ∀ (listed : Array Bool) (a : Act) (f : Done) (w : World), InvS ops a0 F listed a f w → Region.ready .any ops.toArray listed = [] → Q .normal a w := by
    intro listed a f w hI hr
    have hall := noneS_ready hp hI.size hr
    rw [hI.act hp]
    refine hend _ w (by simp [valsOf]) ?_
    have e : (fun i => (valsOf ops a)[i]?) = f := by
      funext i
      unfold valsOf
      rw [List.getElem?_map]
      cases ho : ops[i]? with
      | none =>
        have : ops.length ≤ i := by simpa using ho
        rw [hI.noneAt i (by rw [Array.getD_eq_getD_getElem?, Array.getElem?_eq_none (by rw [hI.size]; exact this)]; rfl)]; rfl
      | some o =>
        rw [hI.new i o ho (hall i (List.getElem?_eq_some_iff.1 ho).1)]
        rfl
    rw [e]; exact hI.cls
  intro fuel
  induction fuel with
  | zero =>
    intro listed a f w ht hI
    have hr : Region.ready .any ops.toArray listed = [] := by
      rw [List.eq_nil_iff_forall_not_mem]
      intro i hi
      obtain ⟨h1, h2, _⟩ := (ready_iff hI.size).1 hi
      have : i ∈ (List.range ops.length).filter fun i => !listed.getD i false := List.mem_filter.2 ⟨List.mem_range.2 h1, by rw [h2]; rfl⟩
      unfold todo at ht
      have := List.length_pos_of_mem this
      omega
    exact ⟨hr, hfin listed a f w hI hr⟩
  | succ fuel ih =>
    intro listed a f w ht hI
    refine ⟨hfin listed a f w hI, fun i hi => ?_⟩
    obtain ⟨h1, h2, h3⟩ := (ready_iff hI.size).1 hi
    have ho : ops[i]? = some ops[i] := List.getElem?_eq_getElem h1
    generalize ops[i] = o at ho
    have hless : todo ops (listed.setIfInBounds i true) ≤ fuel := by
      have : todo ops (listed.setIfInBounds i true) < todo ops listed := by
        unfold todo
        refine filter_less (i := i) (fun j hj => ?_) (by rw [h2]; rfl) ?_ _ (List.mem_range.2 h1)
        · rw [listed_set _ _ _ (by rw [hI.size]; exact h1)] at hj
          by_cases hji : j = i
          · rw [if_pos hji] at hj; cases hj
          · rwa [if_neg hji] at hj
        · rw [listed_set _ _ _ (by rw [hI.size]; exact h1), if_pos rfl]; rfl
      omega
    have hfeed : FeedsG ops a0 i o a.eval f := by
      refine ⟨fun t _ => ?_, fun _ => rfl, fun _ => rfl, fun _ => rfl⟩
      unfold kind
      cases hsrc : srcOf ops t with
      | none => exact hI.old t (fun j hj => by rw [hsrc] at hj; cases hj)
      | some j =>
        simp only
        by_cases hc : (waits ops i).contains j
        · rw [if_pos hc]
          obtain ⟨oj, hoj, hdj⟩ := srcOf_get hsrc
          have := hI.new j oj hoj (h3 j (by simpa using hc))
          unfold slotOf at this
          rw [hdj] at this
          exact this
        · rw [if_neg hc]
          by_cases hc2 : (waits ops j).contains i
          · rw [if_pos hc2]
            refine hI.old t (fun k hk => ?_)
            rw [hsrc] at hk; injection hk with hk; subst hk
            cases hl : listed.getD j false
            · rfl
            · have := hI.shut j hl i (by simpa using hc2); rw [h2] at this; cases this
          · rw [if_neg hc2]; trivial
    obtain ⟨hgd, hob⟩ := hop i o ho
    have hob := hob a.eval f w hI.cls (hI.noneAt i h2) (fun j hj => (hI.isSome_iff j).2 (h3 j hj)) (fun j hj k hk => (hI.isSome_iff k).2 (hI.shut j ((hI.isSome_iff j).1 hj) k hk)) hfeed
    unfold wpOp
    simp only [List.getElem?_toArray, ho]
    have hwt : Region.wanted o (yielded ops.toArray a.tmps) = true := by unfold Region.wanted; rw [hgd]
    rw [if_pos hwt]
    exact .inl (wp_of_opOk hob fun v w' hF => ih _ _ _ _ hless (hI.put hp hsz ho h3 hF))

/-- the obligations of a list of operations, the first of which is the k-th -/
def ObSAll (P : Program) (ops : List Oper) (a0 : Act) (F : Done → World → Prop) : Nat → List Oper → Prop
  | _, [] => True
  | k, o :: os => ObS P ops a0 F k o ∧ ObSAll P ops a0 F (k + 1) os
theorem ObSAll.get {ops : List Oper} {a0 : Act} {F : Done → World → Prop} : ∀ (l : List Oper) (k : Nat), ObSAll P ops a0 F k l → ∀ i o, l[i]? = some o → ObS P ops a0 F (k + i) o
  | [], _, _, i, o, h => by simp at h
  | x :: l, k, h, 0, o, ho => by simp at ho; subst ho; exact h.1
  | x :: l, k, h, i + 1, o, ho => by
    have := ObSAll.get l (k + 1) h.2 i o (by simpa using ho)
    rwa [Nat.add_assoc, Nat.add_comm 1 i] at this
theorem wp_region_reliesS {id : Nat} {ops : List Oper} {a0 : Act} {w0 : World} (F : Done → World → Prop) (hm : P.follows .mixedOrders = true) (hp : plainS ops = true) (hg : bareB ops = true) (hr : roomB ops a0.tmps.size = true)
    (hF : F (fun _ => none) w0.drew) (hop : ObSAll P ops a0 F 0 ops)
    (hend : ∀ (vs : List Value) (w : World), vs.length = ops.length → F (fun i => vs[i]?) w → Q .normal (putAll ops vs a0) w) :
    (Code.region id ops.toArray true).wp P Q a0 w0 := by
  refine wp_region_any hm ?_
  have hrep : ∀ i, (Array.replicate ops.length false).getD i false = false := by
    intro i; rw [Array.getD_eq_getD_getElem?, Array.getElem?_replicate]; split <;> rfl
  refine wpAny_relyS (F := F) hp ?_ ?_ hend _ _ _ (fun _ => none) _ ?_ ?_
  · intro o ho d hd
    unfold roomB at hr
    rw [List.all_eq_true] at hr
    have := hr o ho
    rw [hd] at this; simpa using this
  · intro i o ho
    refine ⟨?_, ?_⟩
    · unfold bareB at hg
      rw [List.all_eq_true] at hg
      have := hg o (List.mem_of_getElem? ho)
      cases hgd : o.guard with
      | none => rfl
      | some x => rw [hgd] at this; cases this
    · have := ObSAll.get ops 0 hop i o ho; rwa [Nat.zero_add] at this
  · unfold todo
    simp only [List.size_toArray]
    exact Nat.le_trans (List.length_filter_le _ _) (by simp)
  · simp only [List.size_toArray]
    refine ⟨by simp, hF, rfl, rfl, fun t _ => rfl, fun i o _ hl => ?_, fun _ _ => rfl, fun i hl => ?_⟩
    · rw [hrep] at hl; cases hl
    · rw [hrep] at hl; cases hl
end
end Go.Proofs.YtginbellakkliaaDoor

/- A region that draws its order and has guards, of which it is known which hold: one obligation for each operation that is done, over whatever has been done before. No program in sight. -/
namespace Go.Proofs.YtginbellakkliaaDoor
open Go.RowKit Go.Sort

section
variable {P : Program} {Q : Exit → Act → World → Prop}
/-- an operation that is passed over -/
def SkS (ops : List Oper) (F : Done → World → Prop) (i : Nat) (o : Oper) : Prop :=
  ∀ (f : Done) (w : World), F f w → f i = none → (∀ j ∈ waits ops i, (f j).isSome = true) → F (f.set i (keptOf o undef)) w
/-- what the guard of an operation says -/
def GdS (F : Done → World → Prop) (t : Bool) (o : Oper) : Prop :=
  match o.guard with
  | none => t = true
  | some (j, b) => ∀ f w v, F f w → f j = some v → v = .bool (if t then b else !b)
/-- guards are waited for, and write a slot -/
def gwaitB (ops : List Oper) : Bool :=
  (List.range ops.length).all fun i => match ops[i]? with
    | some o => (match o.guard with | none => true | some (j, _) => (waits ops i).contains j && (match ops[j]? with | some oj => oj.dst.isSome | none => false))
    | none => true
theorem gwaitB_get {ops : List Oper} (h : gwaitB ops = true) {i : Nat} {o : Oper} {j : Nat} {b : Bool} (ho : ops[i]? = some o) (hg : o.guard = some (j, b)) : j ∈ waits ops i ∧ ∃ oj d, ops[j]? = some oj ∧ oj.dst = some d := by
  unfold gwaitB at h
  rw [List.all_eq_true] at h
  have := h i (List.mem_range.2 (List.getElem?_eq_some_iff.1 ho).1)
  rw [ho] at this
  simp only [hg, Bool.and_eq_true, List.contains_iff_mem] at this
  refine ⟨this.1, ?_⟩
  cases hj : ops[j]? with
  | none => rw [hj] at this; exact absurd this.2 (by simp)
  | some oj =>
    rw [hj] at this
    simp only at this
    cases hd : oj.dst with
    | none => rw [hd] at this; exact absurd this.2 (by simp)
    | some d => exact ⟨oj, d, rfl, hd⟩
theorem wpAny_relyT {ops : List Oper} {a0 : Act} {F : Done → World → Prop} {tk : Nat → Bool} (hp : plainS ops = true) (hgb : gwaitB ops = true)
    (hsz : ∀ o ∈ ops, ∀ d, o.dst = some d → d < a0.tmps.size)
    (hop : ∀ i o, ops[i]? = some o → GdS F (tk i) o ∧ (if tk i = true then ObS P ops a0 F i o else SkS ops F i o))
    (hend : ∀ (vs : List Value) (w : World), vs.length = ops.length → F (fun i => vs[i]?) w → Q .normal (putAll ops vs a0) w) :
    ∀ (fuel : Nat) (listed : Array Bool) (a : Act) (f : Done) (w : World), todo ops listed ≤ fuel → InvS ops a0 F listed a f w → wpAny P .any ops.toArray Q fuel listed a w := by
  have hfin : ∀ (listed : Array Bool) (a : Act) (f : Done) (w : World), InvS ops a0 F listed a f w → Region.ready .any ops.toArray listed = [] → Q .normal a w := by
    intro listed a f w hI hr
    have hall := noneS_ready hp hI.size hr
    rw [hI.act hp]
    refine hend _ w (by simp [valsOf]) ?_
    have e : (fun i => (valsOf ops a)[i]?) = f := by
      funext i
      unfold valsOf
      rw [List.getElem?_map]
      cases ho : ops[i]? with
      | none =>
        have : ops.length ≤ i := by simpa using ho
        rw [hI.noneAt i (by rw [Array.getD_eq_getD_getElem?, Array.getElem?_eq_none (by rw [hI.size]; exact this)]; rfl)]; rfl
      | some o =>
        rw [hI.new i o ho (hall i (List.getElem?_eq_some_iff.1 ho).1)]
        rfl
    rw [e]; exact hI.cls
  intro fuel
  induction fuel with
  | zero =>
    intro listed a f w ht hI
    have hr : Region.ready .any ops.toArray listed = [] := by
      rw [List.eq_nil_iff_forall_not_mem]
      intro i hi
      obtain ⟨h1, h2, _⟩ := (ready_iff hI.size).1 hi
      have : i ∈ (List.range ops.length).filter fun i => !listed.getD i false := List.mem_filter.2 ⟨List.mem_range.2 h1, by rw [h2]; rfl⟩
      unfold todo at ht
      have := List.length_pos_of_mem this
      omega
    exact ⟨hr, hfin listed a f w hI hr⟩
  | succ fuel ih =>
    intro listed a f w ht hI
    refine ⟨hfin listed a f w hI, fun i hi => ?_⟩
    obtain ⟨h1, h2, h3⟩ := (ready_iff hI.size).1 hi
    have ho : ops[i]? = some ops[i] := List.getElem?_eq_getElem h1
    generalize ops[i] = o at ho
    have hless : todo ops (listed.setIfInBounds i true) ≤ fuel := by
      have : todo ops (listed.setIfInBounds i true) < todo ops listed := by
        unfold todo
        refine filter_less (i := i) (fun j hj => ?_) (by rw [h2]; rfl) ?_ _ (List.mem_range.2 h1)
        · rw [listed_set _ _ _ (by rw [hI.size]; exact h1)] at hj
          by_cases hji : j = i
          · rw [if_pos hji] at hj; cases hj
          · rwa [if_neg hji] at hj
        · rw [listed_set _ _ _ (by rw [hI.size]; exact h1), if_pos rfl]; rfl
      omega
    have hfeed : FeedsG ops a0 i o a.eval f := by
      refine ⟨fun t _ => ?_, fun _ => rfl, fun _ => rfl, fun _ => rfl⟩
      unfold kind
      cases hsrc : srcOf ops t with
      | none => exact hI.old t (fun j hj => by rw [hsrc] at hj; cases hj)
      | some j =>
        simp only
        by_cases hc : (waits ops i).contains j
        · rw [if_pos hc]
          obtain ⟨oj, hoj, hdj⟩ := srcOf_get hsrc
          have := hI.new j oj hoj (h3 j (by simpa using hc))
          unfold slotOf at this
          rw [hdj] at this
          exact this
        · rw [if_neg hc]
          by_cases hc2 : (waits ops j).contains i
          · rw [if_pos hc2]
            refine hI.old t (fun k hk => ?_)
            rw [hsrc] at hk; injection hk with hk; subst hk
            cases hl : listed.getD j false
            · rfl
            · have := hI.shut j hl i (by simpa using hc2); rw [h2] at this; cases this
          · rw [if_neg hc2]; trivial
    obtain ⟨hgd, hob⟩ := hop i o ho
    have hwt : Region.wanted o (yielded ops.toArray a.tmps) = tk i := by
      unfold GdS at hgd
      unfold Region.wanted
      cases hg : o.guard with
      | none => rw [hg] at hgd; exact hgd.symm
      | some x =>
        obtain ⟨j, b⟩ := x
        rw [hg] at hgd
        simp only at hgd ⊢
        obtain ⟨hjw, oj, d, hoj, hdj⟩ := gwaitB_get hgb ho hg
        have hnew := hI.new j oj hoj (h3 j hjw)
        have hv := hgd f w _ hI.cls hnew
        unfold slotOf at hv
        rw [hdj] at hv
        simp only at hv
        have hy : yielded ops.toArray a.tmps j = some (if tk i then b else !b) := by
          unfold yielded
          simp only [List.getElem?_toArray, hoj, Option.bind_some, hdj]
          rw [Array.getD_eq_getD_getElem?] at hv
          cases ht : a.tmps[d]? with
          | none => rw [ht] at hv; cases hv
          | some z => rw [ht] at hv; simp only [Option.getD_some] at hv; rw [hv]
        rw [hy]
        cases tk i <;> cases b <;> rfl
    unfold wpOp
    simp only [List.getElem?_toArray, ho]
    cases ht : tk i
    · rw [ht] at hwt hob
      rw [if_neg (by rw [hwt]; exact Bool.false_ne_true)]
      rw [if_neg Bool.false_ne_true] at hob
      exact ih _ _ _ _ hless (hI.put hp hsz ho h3 (hob f w hI.cls (hI.noneAt i h2) (fun j hj => (hI.isSome_iff j).2 (h3 j hj))))
    · rw [ht] at hwt hob
      rw [if_pos hwt]
      rw [if_pos rfl] at hob
      have hob := hob a.eval f w hI.cls (hI.noneAt i h2) (fun j hj => (hI.isSome_iff j).2 (h3 j hj)) (fun j hj k hk => (hI.isSome_iff k).2 (hI.shut j ((hI.isSome_iff j).1 hj) k hk)) hfeed
      exact .inl (wp_of_opOk hob fun v w' hF => ih _ _ _ _ hless (hI.put hp hsz ho h3 hF))
/-- the obligations of a list of operations, the first of which is the k-th; tk: which are done -/
def ObTAll (P : Program) (ops : List Oper) (a0 : Act) (F : Done → World → Prop) (tk : Nat → Bool) : Nat → List Oper → Prop
  | _, [] => True
  | k, o :: os => (GdS F (tk k) o ∧ if tk k = true then ObS P ops a0 F k o else SkS ops F k o) ∧ ObTAll P ops a0 F tk (k + 1) os
theorem ObTAll.get {ops : List Oper} {a0 : Act} {F : Done → World → Prop} {tk : Nat → Bool} : ∀ (l : List Oper) (k : Nat), ObTAll P ops a0 F tk k l → ∀ i o, l[i]? = some o → GdS F (tk (k + i)) o ∧ if tk (k + i) = true then ObS P ops a0 F (k + i) o else SkS ops F (k + i) o
  | [], _, _, i, o, h => by simp at h
  | x :: l, k, h, 0, o, ho => by simp at ho; subst ho; exact h.1
  | x :: l, k, h, i + 1, o, ho => by
    have := ObTAll.get l (k + 1) h.2 i o (by simpa using ho)
    rwa [Nat.add_assoc, Nat.add_comm 1 i] at this
theorem wp_region_reliesT {id : Nat} {ops : List Oper} {a0 : Act} {w0 : World} (F : Done → World → Prop) (tk : Nat → Bool) (hm : P.follows .mixedOrders = true) (hp : plainS ops = true) (hg : gwaitB ops = true) (hr : roomB ops a0.tmps.size = true)
    (hF : F (fun _ => none) w0.drew) (hop : ObTAll P ops a0 F tk 0 ops)
    (hend : ∀ (vs : List Value) (w : World), vs.length = ops.length → F (fun i => vs[i]?) w → Q .normal (putAll ops vs a0) w) :
    (Code.region id ops.toArray true).wp P Q a0 w0 := by
  refine wp_region_any hm ?_
  have hrep : ∀ i, (Array.replicate ops.length false).getD i false = false := by
    intro i; rw [Array.getD_eq_getD_getElem?, Array.getElem?_replicate]; split <;> rfl
  refine wpAny_relyT (F := F) (tk := tk) hp hg ?_ ?_ hend _ _ _ (fun _ => none) _ ?_ ?_
  · intro o ho d hd
    unfold roomB at hr
    rw [List.all_eq_true] at hr
    have := hr o ho
    rw [hd] at this; simpa using this
  · intro i o ho
    have := ObTAll.get ops 0 hop i o ho
    rwa [Nat.zero_add] at this
  · unfold todo
    simp only [List.size_toArray]
    exact Nat.le_trans (List.length_filter_le _ _) (by simp)
  · simp only [List.size_toArray]
    refine ⟨by simp, hF, rfl, rfl, fun t _ => rfl, fun i o _ hl => ?_, fun _ _ => rfl, fun i hl => ?_⟩
    · rw [hrep] at hl; cases hl
    · rw [hrep] at hl; cases hl
end
end Go.Proofs.YtginbellakkliaaDoor
