/- Plain: the search through the cards of one hand; regions that make two blocks and store into them. -/
import Derived.Test.YtpobcaopfeddgaaDoorMDmp
namespace Go.Proofs.YtpobcaopfeddgaaDoor
open Go.RowKit Go.Sort Go.Shelf

/-- a search for side s within lo0 and hi0: P the values met, best so far, the window l and h -/
structure Srch (s : Nat) (lo0 hi0 : Int) (q : Nat) (P : List Nat) (best l h : Int) : Prop where
  ns : s = 0 → MaxI lo0 hi0 P best l ∧ h = hi0
  ew : s = 1 → MinI lo0 hi0 P best h ∧ l = lo0
  none : P = [] → best = if s = 0 then -1 else 7
  some : P ≠ [] → 0 ≤ best ∧ best ≤ q
  lo : lo0 ≤ l
  hi : h ≤ hi0
theorem Srch.start (s : Nat) (lo hi : Int) (q : Nat) : Srch s lo hi q [] (if s = 0 then -1 else 7) lo hi :=
  ⟨fun e => by rw [if_pos e]; exact ⟨MaxI.start .., rfl⟩, fun e => by rw [if_neg (by omega)]; exact ⟨MinI.start .., rfl⟩, fun _ => rfl, fun h => absurd rfl h, Int.le_refl _, Int.le_refl _⟩
theorem Srch.bnd {s : Nat} {lo0 hi0 : Int} {q : Nat} {P : List Nat} {best l h : Int} (H : Srch s lo0 hi0 q P best l h) (hq : q ≤ 7) : -1 ≤ best ∧ best ≤ 7 := by
  rcases P with _ | ⟨x, P⟩
  · have := H.none rfl
    split at this <;> omega
  · have := H.some (by simp)
    omega
theorem Srch.step {s : Nat} (hs : s < 2) {lo0 hi0 : Int} {q : Nat} (hq : q ≤ 7) {P : List Nat} {best l h : Int} (H : Srch s lo0 hi0 q P best l h) (h7 : hi0 ≤ 7) (hlh : l < h) {v : Nat} {r : Int} (hr : Fs l h v r) (h0 : 0 ≤ r) (hrq : r ≤ q) :
    Srch s lo0 hi0 q (P ++ [v]) (betterI s best r) (if s = 0 then max l (betterI s best r) else l) (if s = 0 then h else min h (betterI s best r)) := by
  have hb : best ≤ q ∨ (s = 1 ∧ best = 7) := by
    rcases P with _ | ⟨x, P⟩
    · have := H.none rfl
      split at this
      · left; omega
      · right; omega
    · left; exact (H.some (by simp)).2
  have hb' : 0 ≤ best ∨ (s = 0 ∧ best = -1) := by
    rcases P with _ | ⟨x, P⟩
    · have := H.none rfl
      split at this
      · right; omega
      · left; omega
    · left; exact (H.some (by simp)).1
  rcases (show s = 0 ∨ s = 1 by omega) with rfl | rfl
  · obtain ⟨h1, rfl⟩ := H.ns rfl
    have e : betterI 0 best r = max best r := rfl
    rw [e]
    simp only [if_true]
    have hlo := H.lo
    exact ⟨fun _ => ⟨h1.step hlh hr, rfl⟩, fun e => by omega, fun e => by simp at e, fun _ => by omega, by omega, Int.le_refl _⟩
  · obtain ⟨h1, rfl⟩ := H.ew rfl
    have e : betterI 1 best r = min best r := rfl
    rw [e]
    simp only [show ¬ ((1 : Nat) = 0) by decide, if_false]
    have hhi := H.hi
    exact ⟨fun e => by omega, fun _ => ⟨h1.step h7 hlh hr, rfl⟩, fun e => by simp at e, fun _ => by omega, Int.le_refl _, by omega⟩
theorem Srch.done {s : Nat} (hs : s < 2) {lo0 hi0 : Int} {q : Nat} {P : List Nat} {best l h : Int} (H : Srch s lo0 hi0 q P best l h) (hlo : lo0 < hi0) (hP : P ≠ []) {V : Nat} (hV : ∀ v ∈ P, better (s == 0) v V) (hin : l < h → V ∈ P) : Fs lo0 hi0 V best := by
  rcases (show s = 0 ∨ s = 1 by omega) with rfl | rfl
  · obtain ⟨h1, rfl⟩ := H.ns rfl
    exact h1.done hlo hP hV hin
  · obtain ⟨h1, rfl⟩ := H.ew rfl
    exact h1.done hlo hP hV hin
/-- few cards -/
theorem few_len {t : Tb} (h : TbOk t) {q : Nat} (he : Evn q t) : (bitsList (fewM t)).length ≤ q := by
  have h1 := congrArg List.length (fewM_list h)
  rw [List.length_map] at h1
  rw [h1]
  refine Nat.le_trans (keep_sublist _ _ _).length_le ?_
  rw [← he.turn h.pk.2, pop_len, bitsList_map]
  have h2 : t.cards = ((List.range 52).filter (fun c => (t.h t.turn).testBit c)).filter t.legal := by
    unfold Tb.cards
    rw [List.filter_filter]
    refine List.filter_congr fun c _ => ?_
    rw [Bool.eq_iff_iff, Bool.and_eq_true]
    exact ⟨fun h => ⟨h, (legal_iff.1 h).1⟩, fun h => h.1⟩
  rw [h2]
  refine Nat.le_trans (List.length_filter_le _ _) (range_filter_le _ (by decide))
theorem few_some {t : Tb} (h : TbOk t) {q : Nat} (he : Evn q t) (hq : 0 < q) : t.few (othM t) ≠ [] := by
  refine few_nonempty fun e => ?_
  have h1 := he.turn h.pk.2
  have h2 : canM t ≠ 0 := by
    unfold canM
    have h3 : t.h t.turn ≠ 0 := fun e => by
      rw [e] at h1
      have h4 : pop 0 = 0 := by decide
      omega
    split
    · exact h3
    · split
      · exact h3
      · assumption
  have h3 := congrArg List.length (canM_list h)
  rw [e, List.length_map, List.length_nil, List.length_eq_zero_iff] at h3
  apply h2
  apply Nat.eq_of_testBit_eq
  intro c
  rw [Nat.zero_testBit]
  cases hb : (canM t).testBit c
  · rfl
  · have := (mem_bits (canM_w64 h) (c := c)).2 hb
    rw [h3] at this
    cases this

/-- operation a makes a block (zeros z), operation s lays cs into it; the same with a', s' -/
structure FB (vals : List Value) (a s a' s' : Nat) (ty ty' : TypeId) (z cs z' cs' : Array Value) (B : Nat) (H : World → Prop) (f : Done) (W : World) : Prop where
  st : H W
  blk : ∀ v, f a = some v → ∃ b, B ≤ b ∧ v = .pointer (some ⟨b, 0, none⟩) ∧ Row W b ty (if (f s).isSome then cs else z)
  blk' : ∀ v, f a' = some v → ∃ b, B ≤ b ∧ v = .pointer (some ⟨b, 0, none⟩) ∧ Row W b ty' (if (f s').isSome then cs' else z')
  val : ∀ j v x, j ≠ a → j ≠ a' → f j = some v → vals[j]? = some x → v = x
variable {vals : List Value} {a s a' s' : Nat} {ty ty' : TypeId} {z cs z' cs' : Array Value} {B : Nat} {H : World → Prop} {f : Done} {W W' : World}
theorem FB.start (h : H W) : FB vals a s a' s' ty ty' z cs z' cs' B H (fun _ => none) W := ⟨h, (fun _ h => by cases h), (fun _ h => by cases h), fun _ _ _ _ _ h => by cases h⟩
theorem FB.swap (h : FB vals a s a' s' ty ty' z cs z' cs' B H f W) : FB vals a' s' a s ty' ty z' cs' z cs B H f W := ⟨h.st, h.blk', h.blk, fun j v x h1 h2 => h.val j v x h2 h1⟩
theorem FB.pure (h : FB vals a s a' s' ty ty' z cs z' cs' B H f W) (i : Nat) (v : Value) (hi : i ≠ s ∧ i ≠ a ∧ i ≠ s' ∧ i ≠ a') (hv : vals[i]? = some v) (hW : H W → H W') (hb : Below W.heap.size W W') : FB vals a s a' s' ty ty' z cs z' cs' B H (f.set i v) W' := by
  refine ⟨hW h.st, fun u hu => ?_, fun u hu => ?_, fun j u x hja hja' hj hx => ?_⟩
  · rw [Done.other f v (Ne.symm hi.2.1)] at hu
    obtain ⟨b, h1, h2, h3⟩ := h.blk u hu
    rw [Done.other f v (Ne.symm hi.1)]
    exact ⟨b, h1, h2, h3.later hb⟩
  · rw [Done.other f v (Ne.symm hi.2.2.2)] at hu
    obtain ⟨b, h1, h2, h3⟩ := h.blk' u hu
    rw [Done.other f v (Ne.symm hi.2.2.1)]
    exact ⟨b, h1, h2, h3.later hb⟩
  · by_cases e : j = i
    · subst e
      rw [Done.same] at hj
      rw [hv] at hx
      exact (Option.some.inj hj).symm.trans (Option.some.inj hx)
    · rw [Done.other f v e] at hj
      exact h.val j u x hja hja' hj hx
theorem FB.made (h : FB vals a s a' s' ty ty' z cs z' cs' B H f W) (b : Nat) (hbB : B ≤ b) (hd : a ≠ s ∧ a ≠ a' ∧ a ≠ s') (hs : f s = none) (hr : Row W' b ty z) (hW : H W') (hb : Below W.heap.size W W') : FB vals a s a' s' ty ty' z cs z' cs' B H (f.set a (.pointer (some ⟨b, 0, none⟩))) W' := by
  refine ⟨hW, fun u hu => ?_, fun u hu => ?_, fun j u x hja hja' hj hx => ?_⟩
  · rw [Done.same] at hu
    rw [Done.other f _ (Ne.symm hd.1), hs]
    exact ⟨b, hbB, (Option.some.inj hu).symm, hr⟩
  · rw [Done.other f _ (Ne.symm hd.2.1)] at hu
    rw [Done.other f _ (Ne.symm hd.2.2)]
    obtain ⟨b, h1, h2, h3⟩ := h.blk' u hu
    exact ⟨b, h1, h2, h3.later hb⟩
  · rw [Done.other f _ hja] at hj
    exact h.val j u x hja hja' hj hx
theorem FB.store (h : FB vals a s a' s' ty ty' z cs z' cs' B H f W) (v : Value) {b : Nat} (hd : a ≠ s ∧ s ≠ a' ∧ s ≠ s' ∧ ty ≠ ty') (hv : vals[s]? = some v) (hfa : f a = some (.pointer (some ⟨b, 0, none⟩))) (hr0 : Row W b ty z) (hr : Row W' b ty cs) (hbB : B ≤ b) (hW : H W') (ho : ∀ k, k ≠ b → W'.heap[k]? = W.heap[k]?) : FB vals a s a' s' ty ty' z cs z' cs' B H (f.set s v) W' := by
  refine ⟨hW, fun u hu => ?_, fun u hu => ?_, fun j u x hja hja' hj hx => ?_⟩
  · rw [Done.other f v hd.1] at hu
    rw [hfa] at hu
    rw [Done.same]
    exact ⟨b, hbB, (Option.some.inj hu).symm, hr⟩
  · rw [Done.other f v (Ne.symm hd.2.1)] at hu
    rw [Done.other f v (Ne.symm hd.2.2.1)]
    obtain ⟨b2, h1, h2, h3⟩ := h.blk' u hu
    refine ⟨b2, h1, h2, h3.same (ho _ fun e => ?_)⟩
    subst e
    have h3' : W.heap[b2]? = _ := h3
    have hr0' : W.heap[b2]? = _ := hr0
    rw [h3'] at hr0'
    simp only [Option.some.injEq, Obj.cells.injEq] at hr0'
    exact hd.2.2.2 hr0'.2.1.symm
  · by_cases e : j = s
    · subst e
      rw [Done.same] at hj
      rw [hv] at hx
      exact (Option.some.inj hj).symm.trans (Option.some.inj hx)
    · rw [Done.other f v e] at hj
      exact h.val j u x hja hja' hj hx
/-- a region with one call (operation 7) that gives some r, g of it (operation 8) and a store of that (operation 9) -/
structure FC (vals : List Value) (Pre : World → Prop) (Mid Post : Int → World → Prop) (g : Int → Int) (f : Done) (W : World) : Prop where
  val : ∀ j v x, f j = some v → vals[j]? = some x → v = x
  pre : f 7 = none → f 8 = none ∧ f 9 = none ∧ Pre W
  mid : ∀ v, f 7 = some v → ∃ r, v = .int .i64 r ∧ (∀ u, f 8 = some u → u = .int .i64 (g r)) ∧ (f 9 = none → Mid r W) ∧ (∀ u, f 9 = some u → Post r W)
theorem FC.start {vals : List Value} {Pre : World → Prop} {Mid Post : Int → World → Prop} {g : Int → Int} {W : World} (h : Pre W) : FC vals Pre Mid Post g (fun _ => none) W := ⟨fun _ _ _ h => (by cases h), fun _ => ⟨rfl, rfl, h⟩, fun _ h => by cases h⟩
theorem FC.pure {vals : List Value} {Pre : World → Prop} {Mid Post : Int → World → Prop} {g : Int → Int} {f : Done} {W : World} (h : FC vals Pre Mid Post g f W) (i : Nat) (v : Value) (hi : i < 7) (hv : vals[i]? = some v) : FC vals Pre Mid Post g (f.set i v) W := by
  refine ⟨fun j u x hj hx => ?_, fun h7 => ?_, fun u hu => ?_⟩
  · by_cases e : j = i
    · subst e
      rw [Done.same] at hj
      rw [hv] at hx
      exact (Option.some.inj hj).symm.trans (Option.some.inj hx)
    · rw [Done.other f v e] at hj
      exact h.val j u x hj hx
  · rw [Done.other f v (by omega)] at h7 ⊢
    rw [Done.other f v (by omega)]
    exact h.pre h7
  · rw [Done.other f v (by omega)] at hu ⊢
    rw [Done.other f v (by omega)]
    exact h.mid u hu
theorem FC.call {vals : List Value} {Pre : World → Prop} {Mid Post : Int → World → Prop} {g : Int → Int} {f : Done} {W W' : World} (h : FC vals Pre Mid Post g f W) (hl : vals.length ≤ 7) (hf : f 7 = none) {r : Int} (hm : Mid r W') : FC vals Pre Mid Post g (f.set 7 (.int .i64 r)) W' := by
  obtain ⟨h8, h9, -⟩ := h.pre hf
  refine ⟨fun j u x hj hx => ?_, fun h7 => ?_, fun u hu => ?_⟩
  · have := (List.getElem?_eq_some_iff.1 hx).1
    rw [Done.other f _ (by omega)] at hj
    exact h.val j u x hj hx
  · rw [Done.same] at h7
    cases h7
  · rw [Done.same] at hu
    rw [Done.other f _ (by omega), Done.other f _ (by omega), h8, h9]
    exact ⟨r, (Option.some.inj hu).symm, fun _ h => (by cases h), fun _ => hm, fun _ h => by cases h⟩
theorem FC.fun {vals : List Value} {Pre : World → Prop} {Mid Post : Int → World → Prop} {g : Int → Int} {f : Done} {W : World} (h : FC vals Pre Mid Post g f W) (hl : vals.length ≤ 7) {r : Int} (hf : f 7 = some (.int .i64 r)) : FC vals Pre Mid Post g (f.set 8 (.int .i64 (g r))) W := by
  refine ⟨fun j u x hj hx => ?_, fun h7 => ?_, fun u hu => ?_⟩
  · have := (List.getElem?_eq_some_iff.1 hx).1
    rw [Done.other f _ (by omega)] at hj
    exact h.val j u x hj hx
  · rw [Done.other f _ (by omega), hf] at h7
    cases h7
  · rw [Done.other f _ (by omega)] at hu
    obtain ⟨r', rfl, -, h2, h3⟩ := h.mid u hu
    rw [hf] at hu
    simp only [Option.some.injEq, Value.int.injEq, true_and] at hu
    subst hu
    rw [Done.same, Done.other f _ (by omega)]
    exact ⟨r, rfl, fun u hu => (Option.some.inj hu).symm, h2, h3⟩
theorem FC.store {vals : List Value} {Pre : World → Prop} {Mid Post : Int → World → Prop} {g : Int → Int} {f : Done} {W W' : World} (h : FC vals Pre Mid Post g f W) (hl : vals.length ≤ 7) (v : Value) {r : Int} (hf : f 7 = some (.int .i64 r)) (hp : Post r W') : FC vals Pre Mid Post g (f.set 9 v) W' := by
  refine ⟨fun j u x hj hx => ?_, fun h7 => ?_, fun u hu => ?_⟩
  · have := (List.getElem?_eq_some_iff.1 hx).1
    rw [Done.other f _ (by omega)] at hj
    exact h.val j u x hj hx
  · rw [Done.other f _ (by omega), hf] at h7
    cases h7
  · rw [Done.other f _ (by omega)] at hu
    obtain ⟨r', rfl, h1, -, -⟩ := h.mid u hu
    rw [hf] at hu
    simp only [Option.some.injEq, Value.int.injEq, true_and] at hu
    subst hu
    rw [Done.same, Done.other f _ (by omega)]
    exact ⟨r, rfl, h1, fun h => (by cases h), fun _ _ => hp⟩
theorem FC.look {vals : List Value} {Pre : World → Prop} {Mid Post : Int → World → Prop} {g : Int → Int} {f : Done} {W : World} (h : FC vals Pre Mid Post g f W) (h9 : f 9 = none) : Pre W ∨ ∃ r, Mid r W := by
  rcases h7 : f 7 with _ | v
  · exact .inl (h.pre h7).2.2
  · obtain ⟨r, -, -, hm, -⟩ := h.mid v h7
    exact .inr ⟨r, hm h9⟩
end Go.Proofs.YtpobcaopfeddgaaDoor
