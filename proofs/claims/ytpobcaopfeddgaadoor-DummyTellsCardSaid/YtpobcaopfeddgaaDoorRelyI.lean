/- A region that draws its order, makes memory and stores, within a round of a range over a function (printed by wip/genrelyi.py from XRelyS). -/
import Derived.Test.YtpobcaopfeddgaaDoorRelyS
import Derived.Test.YtpobcaopfeddgaaDoorRound
namespace Go.Proofs.YtpobcaopfeddgaaDoor
open Go.RowKit Go.Sort

section
variable {P : Program} {Q : Exit → Act → World → Prop} {l n : Nat}
theorem wpIn_of_opOk {o : Oper} {a : Act} {w : World} {R : Value → World → Prop} {K : Act → World → Prop} (hd : ∀ c, o.op ≠ .defer c) (h : OpOk P o a.eval w R) (hK : ∀ v w', R v w' → K (a.put o.dst v) w') : o.wpIn (Fence.wide.inRound l) n P a w K Q := by
  unfold OpOk at h
  unfold Oper.wpIn
  refine ⟨fun _ _ => trivial, ?_⟩
  rw [Oper.semAt_eq _ _ _ hd]
  generalize (execOp a.eval o).run P w = r at *
  cases r with
  | ok x w' =>
    cases x <;> simp only [Oper.uponIn] at * <;> first | exact h.elim | exact hK _ _ h | skip
    exact ⟨(fun hx => by cases hx), (CallsIn.inRound l (callsIn_wide.2 h)).mono (fun e w'' he => by obtain ⟨v, rfl, hr⟩ := he; exact hK _ _ hr)⟩
  | halt x w' => simp only at h

theorem wpAnyIn_relyS {ops : List Oper} {a0 : Act} {F : Done → World → Prop} (hnd : noDefer ops.toArray = true) (hp : plainS ops = true)
    (hsz : ∀ o ∈ ops, ∀ d, o.dst = some d → d < a0.tmps.size)
    (hop : ∀ i o, ops[i]? = some o → o.guard = none ∧ ObS P ops a0 F i o)
    (hend : ∀ (vs : List Value) (w : World), vs.length = ops.length → F (fun i => vs[i]?) w → Q .normal (putAll ops vs a0) w) :
    ∀ (fuel : Nat) (listed : Array Bool) (a : Act) (f : Done) (w : World), todo ops listed ≤ fuel → InvS ops a0 F listed a f w → wpAnyIn (Fence.wide.inRound l) n P .any ops.toArray Q fuel listed a w := by
  have hfin : ∀ (listed : Array Bool) (a : Act) (f : Done) (w : World), InvS ops a0 F listed a f w → Region.ready .any ops.toArray listed = [] → Q .normal a w := by
    intro listed a f w hI hr
    have hall := noneS_ready hp hI.size hr
    rw [hI.act hp]
    refine hend _ w (by simp [valsOf]) ?_
    have e : (fun i => (valsOf ops a)[i]?) = f := by
      funext i
      unfold valsOf
      rw [List.getElem?_map]
      cases ho : ops[i]? with
      | none =>
        have : ops.length ≤ i := by simpa using ho
        rw [hI.noneAt i (by rw [Array.getD_eq_getD_getElem?, Array.getElem?_eq_none (by rw [hI.size]; exact this)]; rfl)]; rfl
      | some o =>
        rw [hI.new i o ho (hall i (List.getElem?_eq_some_iff.1 ho).1)]
        rfl
    rw [e]; exact hI.cls
  intro fuel
  induction fuel with
  | zero =>
    intro listed a f w ht hI
    have hr : Region.ready .any ops.toArray listed = [] := by
      rw [List.eq_nil_iff_forall_not_mem]
      intro i hi
      obtain ⟨h1, h2, _⟩ := (ready_iff hI.size).1 hi
      have : i ∈ (List.range ops.length).filter fun i => !listed.getD i false := List.mem_filter.2 ⟨List.mem_range.2 h1, by rw [h2]; rfl⟩
      unfold todo at ht
      have := List.length_pos_of_mem this
      omega
    exact ⟨hr, hfin listed a f w hI hr⟩
  | succ fuel ih =>
    intro listed a f w ht hI
    refine ⟨hfin listed a f w hI, fun i hi => ?_⟩
    obtain ⟨h1, h2, h3⟩ := (ready_iff hI.size).1 hi
    have ho : ops[i]? = some ops[i] := List.getElem?_eq_getElem h1
    generalize ops[i] = o at ho
    have hless : todo ops (listed.setIfInBounds i true) ≤ fuel := by
      have : todo ops (listed.setIfInBounds i true) < todo ops listed := by
        unfold todo
        refine filter_less (i := i) (fun j hj => ?_) (by rw [h2]; rfl) ?_ _ (List.mem_range.2 h1)
        · rw [listed_set _ _ _ (by rw [hI.size]; exact h1)] at hj
          by_cases hji : j = i
          · rw [if_pos hji] at hj; cases hj
          · rwa [if_neg hji] at hj
        · rw [listed_set _ _ _ (by rw [hI.size]; exact h1), if_pos rfl]; rfl
      omega
    have hfeed : FeedsG ops a0 i o a.eval f := by
      refine ⟨fun t _ => ?_, fun _ => rfl, fun _ => rfl, fun _ => rfl⟩
      unfold kind
      cases hsrc : srcOf ops t with
      | none => exact hI.old t (fun j hj => by rw [hsrc] at hj; cases hj)
      | some j =>
        simp only
        by_cases hc : (waits ops i).contains j
        · rw [if_pos hc]
          obtain ⟨oj, hoj, hdj⟩ := srcOf_get hsrc
          have := hI.new j oj hoj (h3 j (by simpa using hc))
          unfold slotOf at this
          rw [hdj] at this
          exact this
        · rw [if_neg hc]
          by_cases hc2 : (waits ops j).contains i
          · rw [if_pos hc2]
            refine hI.old t (fun k hk => ?_)
            rw [hsrc] at hk; injection hk with hk; subst hk
            cases hl : listed.getD j false
            · rfl
            · have := hI.shut j hl i (by simpa using hc2); rw [h2] at this; cases this
          · rw [if_neg hc2]; trivial
    obtain ⟨hgd, hob⟩ := hop i o ho
    have hob := hob a.eval f w hI.cls (hI.noneAt i h2) (fun j hj => (hI.isSome_iff j).2 (h3 j hj)) (fun j hj k hk => (hI.isSome_iff k).2 (hI.shut j ((hI.isSome_iff j).1 hj) k hk)) hfeed
    unfold wpOpIn
    simp only [List.getElem?_toArray, ho]
    have hwt : Region.wanted o (yielded ops.toArray a.tmps) = true := by unfold Region.wanted; rw [hgd]
    rw [if_pos hwt]
    exact (wpIn_of_opOk (noDefer_at hnd (by simpa using ho)) hob fun v w' hF => ih _ _ _ _ hless (hI.put hp hsz ho h3 hF))

theorem wpIn_region_reliesS {id : Nat} {ops : List Oper} {a0 : Act} {w0 : World} (F : Done → World → Prop) (hm : P.follows .mixedOrders = true) (hnd : noDefer ops.toArray = true) (hp : plainS ops = true) (hg : bareB ops = true) (hr : roomB ops a0.tmps.size = true)
    (hF : F (fun _ => none) w0.drew) (hop : ObSAll P ops a0 F 0 ops)
    (hend : ∀ (vs : List Value) (w : World), vs.length = ops.length → F (fun i => vs[i]?) w → Q .normal (putAll ops vs a0) w) :
    (Code.region id ops.toArray true).wpIn (Fence.wide.inRound l) n P Q a0 w0 := by
  refine wpIn_region_any hm ?_
  have hrep : ∀ i, (Array.replicate ops.length false).getD i false = false := by
    intro i; rw [Array.getD_eq_getD_getElem?, Array.getElem?_replicate]; split <;> rfl
  refine wpAnyIn_relyS (F := F) hnd hp ?_ ?_ hend _ _ _ (fun _ => none) _ ?_ ?_
  · intro o ho d hd
    unfold roomB at hr
    rw [List.all_eq_true] at hr
    have := hr o ho
    rw [hd] at this; simpa using this
  · intro i o ho
    refine ⟨?_, ?_⟩
    · unfold bareB at hg
      rw [List.all_eq_true] at hg
      have := hg o (List.mem_of_getElem? ho)
      cases hgd : o.guard with
      | none => rfl
      | some x => rw [hgd] at this; cases this
    · have := ObSAll.get ops 0 hop i o ho; rwa [Nat.zero_add] at this
  · unfold todo
    simp only [List.size_toArray]
    exact Nat.le_trans (List.length_filter_le _ _) (by simp)
  · simp only [List.size_toArray]
    refine ⟨by simp, hF, rfl, rfl, fun t _ => rfl, fun i o _ hl => ?_, fun _ _ => rfl, fun i hl => ?_⟩
    · rw [hrep] at hl; cases hl
    · rw [hrep] at hl; cases hl
end
end Go.Proofs.YtpobcaopfeddgaaDoor
