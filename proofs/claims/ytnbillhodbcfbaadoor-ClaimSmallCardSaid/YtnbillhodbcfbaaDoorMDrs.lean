/- DmS, DmR in one text. -/
import Derived.Test.YtnbillhodbcfbaaDoorMDmp
import Derived.Deep.MidRow

/- Plain: the search through the cards of one hand; regions that make two blocks and store into them. -/
namespace Go.Proofs.YtnbillhodbcfbaaDoor
open Go.RowKit Go.Sort Go.Shelf

/-- a search for side s within lo0 and hi0: P the values met, best so far, the window l and h -/
structure Srch (s : Nat) (lo0 hi0 : Int) (q : Nat) (P : List Nat) (best l h : Int) : Prop where
  ns : s = 0 → MaxI lo0 hi0 P best l ∧ h = hi0
  ew : s = 1 → MinI lo0 hi0 P best h ∧ l = lo0
  none : P = [] → best = if s = 0 then -1 else 7
  some : P ≠ [] → 0 ≤ best ∧ best ≤ q
  lo : lo0 ≤ l
  hi : h ≤ hi0
theorem Srch.start (s : Nat) (lo hi : Int) (q : Nat) : Srch s lo hi q [] (if s = 0 then -1 else 7) lo hi :=
  ⟨fun e => by rw [if_pos e]; exact ⟨MaxI.start .., rfl⟩, fun e => by rw [if_neg (by omega)]; exact ⟨MinI.start .., rfl⟩, fun _ => rfl, fun h => absurd rfl h, Int.le_refl _, Int.le_refl _⟩
theorem Srch.bnd {s : Nat} {lo0 hi0 : Int} {q : Nat} {P : List Nat} {best l h : Int} (H : Srch s lo0 hi0 q P best l h) (hq : q ≤ 7) : -1 ≤ best ∧ best ≤ 7 := by
  rcases P with _ | ⟨x, P⟩
  · have := H.none rfl
    split at this <;> omega
  · have := H.some (by simp)
    omega
theorem Srch.step {s : Nat} (hs : s < 2) {lo0 hi0 : Int} {q : Nat} (hq : q ≤ 7) {P : List Nat} {best l h : Int} (H : Srch s lo0 hi0 q P best l h) (h7 : hi0 ≤ 7) (hlh : l < h) {v : Nat} {r : Int} (hr : Fs l h v r) (h0 : 0 ≤ r) (hrq : r ≤ q) :
    Srch s lo0 hi0 q (P ++ [v]) (betterI s best r) (if s = 0 then max l (betterI s best r) else l) (if s = 0 then h else min h (betterI s best r)) := by
  have hb : best ≤ q ∨ (s = 1 ∧ best = 7) := by
    rcases P with _ | ⟨x, P⟩
    · have := H.none rfl
      split at this
      · left; omega
      · right; omega
    · left; exact (H.some (by simp)).2
  have hb' : 0 ≤ best ∨ (s = 0 ∧ best = -1) := by
    rcases P with _ | ⟨x, P⟩
    · have := H.none rfl
      split at this
      · right; omega
      · left; omega
    · left; exact (H.some (by simp)).1
  rcases (show s = 0 ∨ s = 1 by omega) with rfl | rfl
  · obtain ⟨h1, rfl⟩ := H.ns rfl
    have e : betterI 0 best r = max best r := rfl
    rw [e]
    simp only [if_true]
    have hlo := H.lo
    exact ⟨fun _ => ⟨h1.step hlh hr, rfl⟩, fun e => by omega, fun e => by simp at e, fun _ => by omega, by omega, Int.le_refl _⟩
  · obtain ⟨h1, rfl⟩ := H.ew rfl
    have e : betterI 1 best r = min best r := rfl
    rw [e]
    simp only [show ¬ ((1 : Nat) = 0) by decide, if_false]
    have hhi := H.hi
    exact ⟨fun e => by omega, fun _ => ⟨h1.step h7 hlh hr, rfl⟩, fun e => by simp at e, fun _ => by omega, Int.le_refl _, by omega⟩
theorem Srch.done {s : Nat} (hs : s < 2) {lo0 hi0 : Int} {q : Nat} {P : List Nat} {best l h : Int} (H : Srch s lo0 hi0 q P best l h) (hlo : lo0 < hi0) (hP : P ≠ []) {V : Nat} (hV : ∀ v ∈ P, better (s == 0) v V) (hin : l < h → V ∈ P) : Fs lo0 hi0 V best := by
  rcases (show s = 0 ∨ s = 1 by omega) with rfl | rfl
  · obtain ⟨h1, rfl⟩ := H.ns rfl
    exact h1.done hlo hP hV hin
  · obtain ⟨h1, rfl⟩ := H.ew rfl
    exact h1.done hlo hP hV hin
/-- few cards -/
theorem few_len {t : Tb} (h : TbOk t) {q : Nat} (he : Evn q t) : (bitsList (fewM t)).length ≤ q := by
  have h1 := congrArg List.length (fewM_list h)
  rw [List.length_map] at h1
  rw [h1]
  refine Nat.le_trans (keep_sublist _ _ _).length_le ?_
  rw [← he.turn h.pk.2, pop_len, bitsList_map]
  have h2 : t.cards = ((List.range 52).filter (fun c => (t.h t.turn).testBit c)).filter t.legal := by
    unfold Tb.cards
    rw [List.filter_filter]
    refine List.filter_congr fun c _ => ?_
    rw [Bool.eq_iff_iff, Bool.and_eq_true]
    exact ⟨fun h => ⟨h, (legal_iff.1 h).1⟩, fun h => h.1⟩
  rw [h2]
  refine Nat.le_trans (List.length_filter_le _ _) (range_filter_le _ (by decide))
theorem few_some {t : Tb} (h : TbOk t) {q : Nat} (he : Evn q t) (hq : 0 < q) : t.few (othM t) ≠ [] := by
  refine few_nonempty fun e => ?_
  have h1 := he.turn h.pk.2
  have h2 : canM t ≠ 0 := by
    unfold canM
    have h3 : t.h t.turn ≠ 0 := fun e => by
      rw [e] at h1
      have h4 : pop 0 = 0 := by decide
      omega
    split
    · exact h3
    · split
      · exact h3
      · assumption
  have h3 := congrArg List.length (canM_list h)
  rw [e, List.length_map, List.length_nil, List.length_eq_zero_iff] at h3
  apply h2
  apply Nat.eq_of_testBit_eq
  intro c
  rw [Nat.zero_testBit]
  cases hb : (canM t).testBit c
  · rfl
  · have := (mem_bits (canM_w64 h) (c := c)).2 hb
    rw [h3] at this
    cases this

/-- operation a makes a block (zeros z), operation s lays cs into it; the same with a', s' -/
structure FB (vals : List Value) (a s a' s' : Nat) (ty ty' : TypeId) (z cs z' cs' : Array Value) (B : Nat) (H : World → Prop) (f : Done) (W : World) : Prop where
  st : H W
  blk : ∀ v, f a = some v → ∃ b, B ≤ b ∧ v = .pointer (some ⟨b, 0, none⟩) ∧ Row W b ty (if (f s).isSome then cs else z)
  blk' : ∀ v, f a' = some v → ∃ b, B ≤ b ∧ v = .pointer (some ⟨b, 0, none⟩) ∧ Row W b ty' (if (f s').isSome then cs' else z')
  val : ∀ j v x, j ≠ a → j ≠ a' → f j = some v → vals[j]? = some x → v = x
variable {vals : List Value} {a s a' s' : Nat} {ty ty' : TypeId} {z cs z' cs' : Array Value} {B : Nat} {H : World → Prop} {f : Done} {W W' : World}
theorem FB.start (h : H W) : FB vals a s a' s' ty ty' z cs z' cs' B H (fun _ => none) W := ⟨h, (fun _ h => by cases h), (fun _ h => by cases h), fun _ _ _ _ _ h => by cases h⟩
theorem FB.swap (h : FB vals a s a' s' ty ty' z cs z' cs' B H f W) : FB vals a' s' a s ty' ty z' cs' z cs B H f W := ⟨h.st, h.blk', h.blk, fun j v x h1 h2 => h.val j v x h2 h1⟩
theorem FB.pure (h : FB vals a s a' s' ty ty' z cs z' cs' B H f W) (i : Nat) (v : Value) (hi : i ≠ s ∧ i ≠ a ∧ i ≠ s' ∧ i ≠ a') (hv : vals[i]? = some v) (hW : H W → H W') (hb : Below W.heap.size W W') : FB vals a s a' s' ty ty' z cs z' cs' B H (f.set i v) W' := by
  refine ⟨hW h.st, fun u hu => ?_, fun u hu => ?_, fun j u x hja hja' hj hx => ?_⟩
  · rw [Done.other f v (Ne.symm hi.2.1)] at hu
    obtain ⟨b, h1, h2, h3⟩ := h.blk u hu
    rw [Done.other f v (Ne.symm hi.1)]
    exact ⟨b, h1, h2, h3.later hb⟩
  · rw [Done.other f v (Ne.symm hi.2.2.2)] at hu
    obtain ⟨b, h1, h2, h3⟩ := h.blk' u hu
    rw [Done.other f v (Ne.symm hi.2.2.1)]
    exact ⟨b, h1, h2, h3.later hb⟩
  · by_cases e : j = i
    · subst e
      rw [Done.same] at hj
      rw [hv] at hx
      exact (Option.some.inj hj).symm.trans (Option.some.inj hx)
    · rw [Done.other f v e] at hj
      exact h.val j u x hja hja' hj hx
theorem FB.made (h : FB vals a s a' s' ty ty' z cs z' cs' B H f W) (b : Nat) (hbB : B ≤ b) (hd : a ≠ s ∧ a ≠ a' ∧ a ≠ s') (hs : f s = none) (hr : Row W' b ty z) (hW : H W') (hb : Below W.heap.size W W') : FB vals a s a' s' ty ty' z cs z' cs' B H (f.set a (.pointer (some ⟨b, 0, none⟩))) W' := by
  refine ⟨hW, fun u hu => ?_, fun u hu => ?_, fun j u x hja hja' hj hx => ?_⟩
  · rw [Done.same] at hu
    rw [Done.other f _ (Ne.symm hd.1), hs]
    exact ⟨b, hbB, (Option.some.inj hu).symm, hr⟩
  · rw [Done.other f _ (Ne.symm hd.2.1)] at hu
    rw [Done.other f _ (Ne.symm hd.2.2)]
    obtain ⟨b, h1, h2, h3⟩ := h.blk' u hu
    exact ⟨b, h1, h2, h3.later hb⟩
  · rw [Done.other f _ hja] at hj
    exact h.val j u x hja hja' hj hx
theorem FB.store (h : FB vals a s a' s' ty ty' z cs z' cs' B H f W) (v : Value) {b : Nat} (hd : a ≠ s ∧ s ≠ a' ∧ s ≠ s' ∧ ty ≠ ty') (hv : vals[s]? = some v) (hfa : f a = some (.pointer (some ⟨b, 0, none⟩))) (hr0 : Row W b ty z) (hr : Row W' b ty cs) (hbB : B ≤ b) (hW : H W') (ho : ∀ k, k ≠ b → W'.heap[k]? = W.heap[k]?) : FB vals a s a' s' ty ty' z cs z' cs' B H (f.set s v) W' := by
  refine ⟨hW, fun u hu => ?_, fun u hu => ?_, fun j u x hja hja' hj hx => ?_⟩
  · rw [Done.other f v hd.1] at hu
    rw [hfa] at hu
    rw [Done.same]
    exact ⟨b, hbB, (Option.some.inj hu).symm, hr⟩
  · rw [Done.other f v (Ne.symm hd.2.1)] at hu
    rw [Done.other f v (Ne.symm hd.2.2.1)]
    obtain ⟨b2, h1, h2, h3⟩ := h.blk' u hu
    refine ⟨b2, h1, h2, h3.same (ho _ fun e => ?_)⟩
    subst e
    have h3' : W.heap[b2]? = _ := h3
    have hr0' : W.heap[b2]? = _ := hr0
    rw [h3'] at hr0'
    simp only [Option.some.injEq, Obj.cells.injEq] at hr0'
    exact hd.2.2.2 hr0'.2.1.symm
  · by_cases e : j = s
    · subst e
      rw [Done.same] at hj
      rw [hv] at hx
      exact (Option.some.inj hj).symm.trans (Option.some.inj hx)
    · rw [Done.other f v e] at hj
      exact h.val j u x hja hja' hj hx
/-- a region with one call (operation 7) that gives some r, g of it (operation 8) and a store of that (operation 9) -/
structure FC (vals : List Value) (Pre : World → Prop) (Mid Post : Int → World → Prop) (g : Int → Int) (f : Done) (W : World) : Prop where
  val : ∀ j v x, f j = some v → vals[j]? = some x → v = x
  pre : f 7 = none → f 8 = none ∧ f 9 = none ∧ Pre W
  mid : ∀ v, f 7 = some v → ∃ r, v = .int .i64 r ∧ (∀ u, f 8 = some u → u = .int .i64 (g r)) ∧ (f 9 = none → Mid r W) ∧ (∀ u, f 9 = some u → Post r W)
theorem FC.start {vals : List Value} {Pre : World → Prop} {Mid Post : Int → World → Prop} {g : Int → Int} {W : World} (h : Pre W) : FC vals Pre Mid Post g (fun _ => none) W := ⟨fun _ _ _ h => (by cases h), fun _ => ⟨rfl, rfl, h⟩, fun _ h => by cases h⟩
theorem FC.pure {vals : List Value} {Pre : World → Prop} {Mid Post : Int → World → Prop} {g : Int → Int} {f : Done} {W : World} (h : FC vals Pre Mid Post g f W) (i : Nat) (v : Value) (hi : i < 7) (hv : vals[i]? = some v) : FC vals Pre Mid Post g (f.set i v) W := by
  refine ⟨fun j u x hj hx => ?_, fun h7 => ?_, fun u hu => ?_⟩
  · by_cases e : j = i
    · subst e
      rw [Done.same] at hj
      rw [hv] at hx
      exact (Option.some.inj hj).symm.trans (Option.some.inj hx)
    · rw [Done.other f v e] at hj
      exact h.val j u x hj hx
  · rw [Done.other f v (by omega)] at h7 ⊢
    rw [Done.other f v (by omega)]
    exact h.pre h7
  · rw [Done.other f v (by omega)] at hu ⊢
    rw [Done.other f v (by omega)]
    exact h.mid u hu
theorem FC.call {vals : List Value} {Pre : World → Prop} {Mid Post : Int → World → Prop} {g : Int → Int} {f : Done} {W W' : World} (h : FC vals Pre Mid Post g f W) (hl : vals.length ≤ 7) (hf : f 7 = none) {r : Int} (hm : Mid r W') : FC vals Pre Mid Post g (f.set 7 (.int .i64 r)) W' := by
  obtain ⟨h8, h9, -⟩ := h.pre hf
  refine ⟨fun j u x hj hx => ?_, fun h7 => ?_, fun u hu => ?_⟩
  · have := (List.getElem?_eq_some_iff.1 hx).1
    rw [Done.other f _ (by omega)] at hj
    exact h.val j u x hj hx
  · rw [Done.same] at h7
    cases h7
  · rw [Done.same] at hu
    rw [Done.other f _ (by omega), Done.other f _ (by omega), h8, h9]
    exact ⟨r, (Option.some.inj hu).symm, fun _ h => (by cases h), fun _ => hm, fun _ h => by cases h⟩
theorem FC.fun {vals : List Value} {Pre : World → Prop} {Mid Post : Int → World → Prop} {g : Int → Int} {f : Done} {W : World} (h : FC vals Pre Mid Post g f W) (hl : vals.length ≤ 7) {r : Int} (hf : f 7 = some (.int .i64 r)) : FC vals Pre Mid Post g (f.set 8 (.int .i64 (g r))) W := by
  refine ⟨fun j u x hj hx => ?_, fun h7 => ?_, fun u hu => ?_⟩
  · have := (List.getElem?_eq_some_iff.1 hx).1
    rw [Done.other f _ (by omega)] at hj
    exact h.val j u x hj hx
  · rw [Done.other f _ (by omega), hf] at h7
    cases h7
  · rw [Done.other f _ (by omega)] at hu
    obtain ⟨r', rfl, -, h2, h3⟩ := h.mid u hu
    rw [hf] at hu
    simp only [Option.some.injEq, Value.int.injEq, true_and] at hu
    subst hu
    rw [Done.same, Done.other f _ (by omega)]
    exact ⟨r, rfl, fun u hu => (Option.some.inj hu).symm, h2, h3⟩
theorem FC.store {vals : List Value} {Pre : World → Prop} {Mid Post : Int → World → Prop} {g : Int → Int} {f : Done} {W W' : World} (h : FC vals Pre Mid Post g f W) (hl : vals.length ≤ 7) (v : Value) {r : Int} (hf : f 7 = some (.int .i64 r)) (hp : Post r W') : FC vals Pre Mid Post g (f.set 9 v) W' := by
  refine ⟨fun j u x hj hx => ?_, fun h7 => ?_, fun u hu => ?_⟩
  · have := (List.getElem?_eq_some_iff.1 hx).1
    rw [Done.other f _ (by omega)] at hj
    exact h.val j u x hj hx
  · rw [Done.other f _ (by omega), hf] at h7
    cases h7
  · rw [Done.other f _ (by omega)] at hu
    obtain ⟨r', rfl, h1, -, -⟩ := h.mid u hu
    rw [hf] at hu
    simp only [Option.some.injEq, Value.int.injEq, true_and] at hu
    subst hu
    rw [Done.same, Done.other f _ (by omega)]
    exact ⟨r, rfl, h1, fun h => (by cases h), fun _ _ => hp⟩
theorem FC.look {vals : List Value} {Pre : World → Prop} {Mid Post : Int → World → Prop} {g : Int → Int} {f : Done} {W : World} (h : FC vals Pre Mid Post g f W) (h9 : f 9 = none) : Pre W ∨ ∃ r, Mid r W := by
  rcases h7 : f 7 with _ | v
  · exact .inl (h.pre h7).2.2
  · obtain ⟨r, -, -, hm, -⟩ := h.mid v h7
    exact .inr ⟨r, hm h9⟩
end Go.Proofs.YtnbillhodbcfbaaDoor

/- The solver: the contracts, and after. -/
namespace Go.Proofs.YtnbillhodbcfbaaDoor
open Go.RowKit Go.Sort Go.Shelf Go.Maps Go.WideMaps

/-- what a search gives back -/
def Found (tr bs bm n m q : Nat) (lo hi : Int) (t : Tb) (w : World) (e : Ending) (w' : World) : Prop :=
  ∃ r : Int, e = .returned (.int .i64 r) ∧ Fs lo hi (val tr m t) r ∧ 0 ≤ r ∧ r ≤ q ∧ Slv tr bs bm n w' ∧ But w.heap.size bm w w'
def WOk (tr m : Nat) : Prop := ∀ (bs bm n : Nat) (t : Tb) (q : Nat) (lo hi : Int) (w : World), TbOk t → Uniq t → Evn q t → 0 < m → m + t.cs.length = 4 * q → q ≤ 4 → lo < hi → hi ≤ 7 → (q : Int) - 1000 ≤ lo → Slv tr bs bm n w → Tab w → n + 5 ^ m < maxLen →
  Calls Tryd.prog 83 #[.pointer (some ⟨bs, 0, none⟩), .agg (tbA t), .int .i64 lo, .int .i64 hi] w (Found tr bs bm (n + (5 ^ m - 1)) m q lo hi t w)
def BOk (tr q : Nat) : Prop := ∀ (bs bm n : Nat) (h : Nat → Nat) (ld : Nat) (lo hi : Int) (w : World), In52 h → Uniq ⟨h, ld, []⟩ → ld < 4 → Evn q ⟨h, ld, []⟩ → q ≤ 4 → lo < hi → hi ≤ 7 → (q : Int) - 1000 ≤ lo → Slv tr bs bm n w → Tab w → n + 5 ^ (4 * q) < maxLen →
  Calls Tryd.prog 82 #[.pointer (some ⟨bs, 0, none⟩), .agg (deA h), .int .u8 (ld : Int), .int .i64 lo, .int .i64 hi] w (Found tr bs bm (n + 5 ^ (4 * q)) (4 * q) q lo hi ⟨h, ld, []⟩ w)
/-- what a card leaves: the sizes behind it -/
theorem tbOk_put {t : Tb} {m q c : Nat} (hk : TbOk t) (hc : c < 52) (hb : (t.h t.turn).testBit c = true) (hu : Uniq t) (he : Evn q t) (hm : m + 1 + t.cs.length = 4 * q) (tr : Nat) :
    TbOk (t.put tr c).1 ∧ Uniq (t.put tr c).1 ∧ (t.put tr c).2 ≤ 1 ∧ (((t.put tr c).1.cs = [] ∧ 1 ≤ q ∧ m = 4 * (q - 1) ∧ Evn (q - 1) (t.put tr c).1) ∨ ((t.put tr c).1.cs ≠ [] ∧ 0 < m ∧ m + (t.put tr c).1.cs.length = 4 * q ∧ Evn q (t.put tr c).1 ∧ (t.put tr c).2 = 0)) := by
  obtain ⟨w0, w1⟩ := put_won (t := t) tr c
  refine ⟨ok_put hk hc, uniq_put hu (by omega) hk.pk.2 hb, w1, ?_⟩
  have hl := hk.pk.2
  rcases he.put hl tr (by omega) hb with ⟨h1, h2, h3⟩ | ⟨h1, h2, h3⟩
  · refine .inr ⟨fun e => ?_, by omega, by omega, h2, w0 h1⟩
    rw [e] at h3
    cases h3
  · exact .inl ⟨h3, by omega, by omega, h2⟩
set_option maxHeartbeats 2000000 in
set_option maxRecDepth 10000 in
theorem dm_after (tr m : Nat) (htr : tr < 256) (hW : WOk tr m) (hB : ∀ q, m = 4 * q → BOk tr q) (bs bm n : Nat) (t : Tb) (q c : Nat) (lo hi : Int) (w : World) (hk : TbOk t) (hu : Uniq t) (he : Evn q t) (hm : m + 1 + t.cs.length = 4 * q) (hq : q ≤ 4)
    (hc : c < 52) (hb : (t.h t.turn).testBit c = true) (hlh : lo < hi) (h7 : hi ≤ 7) (hlo : (q : Int) - 1000 ≤ lo) (hs : Slv tr bs bm n w) (hT : Tab w) (hn : n + 5 ^ m < maxLen) :
    Calls Tryd.prog 67 #[.pointer (some ⟨bs, 0, none⟩), .agg (tbA t), .int .u8 (c : Int), .int .i64 lo, .int .i64 hi] w fun e w' =>
      ∃ r : Int, e = .returned (.int .i64 r) ∧ Fs lo hi (worth tr m t c) r ∧ 0 ≤ r ∧ r ≤ q ∧ Slv tr bs bm (n + 5 ^ m) w' ∧ But w.heap.size bm w w' := by
  have HW := Lib.hid hW
  have HB := Lib.hid hB
  have HK := Lib.hid hk
  have HU := Lib.hid hu
  have HE := Lib.hid he
  have HM := Lib.hid hm
  have HN := Lib.hid hn
  have HS := Lib.hid hs
  have HT := Lib.hid hT
  have HF := Lib.hid (show lo < hi ∧ hi ≤ 7 ∧ (q : Int) - 1000 ≤ lo ∧ q ≤ 4 ∧ c < 52 ∧ tr < 256 from ⟨hlh, h7, hlo, hq, hc, htr⟩)
  have HBT := Lib.hid hb
  clear hW hB hk hu he hm hn hs hT hlh h7 hlo hq hb
  go_enter Tryd.func67, Tryd.ntmps67
  go_upto_region 1 with fail
  have HR1 := Lib.hid (Row.new w 76 (tbA t))
  have HS1 := Lib.hid (HS.out.below ((Below.refl w.heap.size w).alloc (Nat.le_refl _) (.cells (tbA t) 76)))
  have HB1 := Lib.hid ((Below.refl w.heap.size w).alloc (Nat.le_refl _) (.cells (tbA t) 76))
  have HL1 := Lib.hid (show (w.alloc (.cells (tbA t) 76)).heap.size = w.heap.size + 1 by rw [World.size_alloc])
  obtain ⟨b6, hb6⟩ : ∃ b, w.heap.size = b := ⟨_, rfl⟩
  have HB6 := Lib.hid hb6
  rw [hb6] at HR1 HL1 ⊢
  clear hb6
  generalize w.alloc (.cells (tbA t) 76) = W1 at *
  obtain ⟨T, hT2⟩ : ∃ A, tbA t = A := ⟨_, rfl⟩
  have HTT := Lib.hid hT2
  have HTZ : Hid (T.size = 10 ∧ T.all (·.oneCell') = true) := Lib.hid (by rw [← hT2]; exact ⟨rfl, tbA_one t⟩)
  rw [hT2] at HR1 ⊢
  clear hT2
  have HPT := Lib.hid (fun W => dm_put t HK.out tr c HF.out.2.2.2.2.1 HF.out.2.2.2.2.2 W)
  rw [HTT.out] at HPT
  have HPZ : Hid ((tbA (t.put tr c).1).size = 10 ∧ (tbA (t.put tr c).1).all (·.oneCell') = true) := Lib.hid ⟨rfl, tbA_one _⟩
  obtain ⟨T2, hT2⟩ : ∃ A, tbA (t.put tr c).1 = A := ⟨_, rfl⟩
  have HT2 := Lib.hid hT2
  rw [hT2] at HPT HPZ
  clear hT2
  obtain ⟨won, hwon⟩ : ∃ x, (t.put tr c).2 = x := ⟨_, rfl⟩
  have HWON := Lib.hid hwon
  rw [hwon] at HPT
  clear hwon
  refine wp_region_reliesS (FA [.agg T, .int .u8 (c : Int), .pointer (some ⟨bs, 0, none⟩), .pointer (some ⟨bs, 0, none⟩), .pointer (some ⟨bs, 0, none⟩), .int .u8 (tr : Int), .tuple #[.agg T2, .int .i64 (won : Int)], .tuple #[.agg T2, .int .i64 (won : Int)], .agg T2, .int .i64 (won : Int), undef, undef, .int .i64 (won : Int)] 10 11 76 zeroT T2 W1.heap.size (fun W => Below W1.heap.size W1 W)) (by kernel_rfl) (by kernel_rfl) (by kernel_rfl) (by kernel_rfl) (FA.start (Below.refl _ _).drew) ?obls ?fini
  case obls =>
    refine ⟨?_, ?_, ?_, ?_, ?_, ?_, ?_, ?_, ?_, ?_, ?_, ?_, ?_, trivial⟩
    · rintro ρ f W hF hfi hw hcl hf
      have f6 : ρ (.tmp 6) = .pointer (some ⟨b6, 0, none⟩) := hf.1 6 (by simp [Op.operands])
      exact ok_value (exec_load_row 76 (.tmp 6) rfl b6 f6 (HR1.out.later hF.st) Tryd.underlying76 rfl (by rw [HTZ.out.1]; exact size_tb)) (hF.pure 0 _ (by decide) (by decide) rfl (fun h => h) (Below.refl _ _))
    · rintro ρ f W hF hfi hw hcl hf
      have f2 : ρ (.tmp 2) = .int .u8 (c : Int) := hf.1 2 (by simp [Op.operands])
      exact ok_value (v := .int .u8 (c : Int)) (w' := W) (by simp [execOp, f2]) (hF.pure 1 _ (by decide) (by decide) rfl (fun h => h) (Below.refl _ _))
    · rintro ρ f W hF hfi hw hcl hf
      have f0 : ρ (.tmp 0) = .pointer (some ⟨bs, 0, none⟩) := hf.1 0 (by simp [Op.operands])
      exact ok_value (v := .pointer (some ⟨bs, 0, none⟩)) (w' := W) (by simp [execOp, f0]) (hF.pure 2 _ (by decide) (by decide) rfl (fun h => h) (Below.refl _ _))
    · rintro ρ f W hF hfi hw hcl hf
      have f16 : ρ (.tmp 16) = .pointer (some ⟨bs, 0, none⟩) := hF.val 2 _ _ (by decide) (hf.1 16 (by simp [Op.operands])) rfl
      exact ok_value (v := .pointer (some ⟨bs, 0, none⟩)) (w' := W) (by simp [execOp, f16]) (hF.pure 3 _ (by decide) (by decide) rfl (fun h => h) (Below.refl _ _))
    · rintro ρ f W hF hfi hw hcl hf
      have f17 : ρ (.tmp 17) = .pointer (some ⟨bs, 0, none⟩) := hF.val 3 _ _ (by decide) (hf.1 17 (by simp [Op.operands])) rfl
      exact ok_value (v := .pointer (some ⟨bs, 0, none⟩)) (w' := W) (by simp [execOp, f17, go_sem]) (hF.pure 4 _ (by decide) (by decide) rfl (fun h => h) (Below.refl _ _))
    · rintro ρ f W hF hfi hw hcl hf
      have f18 : ρ (.tmp 18) = .pointer (some ⟨bs, 0, none⟩) := hF.val 4 _ _ (by decide) (hf.1 18 (by simp [Op.operands])) rfl
      have ck : W.cell? ⟨bs, 0, none⟩ = some (.int .u8 (tr : Int)) := (HS1.out.row.later hF.st).cell 0
      exact ok_value (v := .int .u8 (tr : Int)) (w' := W) (by simp [execOp, f18, go_sem, ck]) (hF.pure 5 _ (by decide) (by decide) rfl (fun h => h) (Below.refl _ _))
    · rintro ρ f W hF hfi hw hcl hf
      have f14 : ρ (.tmp 14) = .agg T := hF.val 0 _ _ (by decide) (hf.1 14 (by simp [Op.operands, Call.operands])) rfl
      have f15 : ρ (.tmp 15) = .int .u8 (c : Int) := hF.val 1 _ _ (by decide) (hf.1 15 (by simp [Op.operands, Call.operands])) rfl
      have f19 : ρ (.tmp 19) = .int .u8 (tr : Int) := hF.val 5 _ _ (by decide) (hf.1 19 (by simp [Op.operands, Call.operands])) rfl
      refine ok_call (f := 40) (args := #[.agg T, .int .u8 (c : Int), .int .u8 (tr : Int)]) (by simp [execOp, f14, f15, f19, hf.2.2.2, go_sem]) ((HPT.out W).mono ?_)
      rintro e w5 ⟨rfl, hb5⟩
      exact ⟨_, rfl, hF.pure 6 _ (by decide) (by decide) rfl (fun h => h.trans (hb5.mono h.size)) hb5⟩
    · rintro ρ f W hF hfi hw hcl hf
      have f20 := hF.val 6 _ _ (by decide) (hf.1 20 (by simp [Op.operands])) rfl
      exact ok_value (v := .tuple #[.agg T2, .int .i64 (won : Int)]) (w' := W) (by simp [execOp, f20]) (hF.pure 7 _ (by decide) (by decide) rfl (fun h => h) (Below.refl _ _))
    · rintro ρ f W hF hfi hw hcl hf
      have f13 := hF.val 7 _ _ (by decide) (hf.1 13 (by simp [Op.operands])) rfl
      exact ok_value (v := .agg T2) (w' := W) (by simp [execOp, f13, go_sem]) (hF.pure 8 _ (by decide) (by decide) rfl (fun h => h) (Below.refl _ _))
    · rintro ρ f W hF hfi hw hcl hf
      have f13 := hF.val 7 _ _ (by decide) (hf.1 13 (by simp [Op.operands])) rfl
      exact ok_value (v := .int .i64 (won : Int)) (w' := W) (by simp [execOp, f13, go_sem]) (hF.pure 9 _ (by decide) (by decide) rfl (fun h => h) (Below.refl _ _))
    · rintro ρ f W hF hfi hw hcl hf
      have hs11 : f 11 = none := by
        rcases h : f 11 with _ | v
        · rfl
        · have := hcl 11 (by rw [h]; rfl) 10 (by decide)
          rw [hfi] at this; cases this
      exact ok_value (exec_alloc 76 rfl (c := zeroT) (fun w => by kernel_rfl)) (hF.made W.heap.size hF.st.size (by decide) hs11 (Row.new W 76 zeroT) (hF.st.alloc hF.st.size _))
    · rintro ρ f W hF hfi hw hcl hf
      have f21 : ρ (.tmp 21) = .agg T2 := hF.val 8 _ _ (by decide) (hf.1 21 (by simp [Op.operands])) rfl
      obtain ⟨b, hbB, h11, hrow⟩ := hF.blk _ (hf.1 11 (by simp [Op.operands]))
      rw [hfi] at hrow
      exact ok_skip (exec_store_row 76 (.tmp 11) (.tmp 21) rfl b T2 h11 f21 hrow (by rw [HPZ.out.1]; exact size_tb) (by rw [HPZ.out.1]; rfl) HPZ.out.2)
        (hF.store _ (by decide) rfl ((hf.1 11 (by simp [Op.operands])).trans (congrArg some h11)) (setRow_heap _ _ _ _ _ _ hrow) hbB (below_setRow hF.st hbB _))
    · rintro ρ f W hF hfi hw hcl hf
      have f22 := hF.val 9 _ _ (by decide) (hf.1 22 (by simp [Op.operands])) rfl
      exact ok_value (v := .int .i64 (won : Int)) (w' := W) (by simp [execOp, f22]) (hF.pure 12 _ (by decide) (by decide) rfl (fun h => h) (Below.refl _ _))
  case fini =>
    rintro vs w8 hlen hF
    have hl0 : vs.length = 13 := hlen
    match vs, hl0 with
    | [v0, v1, v2, v3, v4, v5, v6, v7, v8, v9, v10, v11, v12], _ =>
      obtain ⟨b, hbB, rfl, hrow⟩ := hF.blk v10 rfl
      obtain rfl := hF.val 12 v12 _ (by decide) rfl rfl
      have hst := hF.st
      simp only [putAll, List.zip_cons_cons, List.zip_nil_right, List.foldl_cons, List.foldl_nil]
      simp only [Act.put, List.setIfInBounds_toArray, List.set_cons_succ, List.set_cons_zero]
      have HR8 : Hid (Row w8 b 76 T2) := Lib.hid hrow
      have HB8 := Lib.hid (HB1.out.trans (hst.mono (by rw [HL1.out]; have := HB6.out; omega)))
      have HT8 := Lib.hid (HT.out.below HT.out.pos HB8.out)
      have HS8 := Lib.hid (HS.out.below HB8.out)
      clear hst hrow hF hlen hbB
      have HO := Lib.hid (tbOk_put HK.out HF.out.2.2.2.2.1 HBT.out HU.out HE.out HM.out tr)
      obtain ⟨u, hu⟩ : ∃ u, (t.put tr c).1 = u := ⟨_, rfl⟩
      have HWV : Hid (worth tr m t c = won + val tr m u) := Lib.hid (by unfold worth; rw [HWON.out, hu])
      have HT2 := Lib.hid (hu ▸ HT2.out)
      rw [hu, HWON.out] at HO
      clear hu
      have hc5 := HR8.out.cell 5
      rw [← HT2.out] at hc5
      simp only [List.getElem?_toArray, List.getElem?_cons_zero, List.getElem?_cons_succ] at hc5
      have hlo2 : -1000 ≤ lo := by have := HF.out.2.2.1; omega
      have hhi2 : hi ≤ 7 := HF.out.2.1
      have hlh2 : lo < hi := HF.out.1
      have hw2 : won ≤ 1 := HO.out.2.2.1
      have hci : ∀ k, k < 5 → w8.cell? ⟨b, k, none⟩ = (tbA u)[k]? := fun k _ => by rw [HT2.out]; exact HR8.out.cell k
      have c4 := hci 4 (by decide)
      have HRA : Hid (w8.rangeAt b 0 [.int .u64 (u.h 0 : Int), .int .u64 (u.h 1 : Int), .int .u64 (u.h 2 : Int), .int .u64 (u.h 3 : Int)]) := Lib.hid (by
        intro j v hj
        have hj4 : j < 4 := by simpa using (List.getElem?_eq_some_iff.1 hj).1
        rw [Nat.zero_add, hci j (by omega)]
        rcases (show j = 0 ∨ j = 1 ∨ j = 2 ∨ j = 3 by omega) with rfl | rfl | rfl | rfl <;> exact hj)
      clear hci
      simp only [List.getElem?_toArray, List.getElem?_cons_zero, List.getElem?_cons_succ] at c4
      have HB8' := Lib.hid (But.of_below (Bm := bm) HB8.out)
      by_cases h0 : u.cs = []
      · rw [h0] at hc5
        simp only [List.length_nil, show ((0 : Nat) : Int) = 0 from rfl] at hc5
        have HO2 : Hid (1 ≤ q ∧ m = 4 * (q - 1) ∧ Evn (q - 1) u) := Lib.hid ((HO.out.2.2.2.resolve_right fun h => h.1 h0).2)
        have HEU : Hid (u = ⟨u.h, u.ld, []⟩) := Lib.hid (by rw [← h0])
        clear h0
        go_wp2_with (refine wpList_load_mid rfl 24 (.tmp 28) rfl b 0 rfl _ _ HRA.out Tryd.underlying24 rfl size_de ?_)
        refine (HB.out (q - 1) HO2.out.2.1 bs bm n u.h u.ld (lo - won) (hi - won) w8 HO.out.1.pk.1 (HEU.out ▸ HO.out.2.1) HO.out.1.ld (HEU.out ▸ HO2.out.2.2) (by have := HF.out.2.2.2.1; omega) (by omega) (by omega) (by have := HF.out.2.2.1; have := HO2.out.1; omega) HS8.out HT8.out (by rw [← HO2.out.2.1]; exact HN.out)).mono ?_
        rintro e w9 ⟨r, rfl, hf9, hr0, hr1, hs9, hb9⟩
        have hq4 := HF.out.2.2.2.1
        have HF9 := Lib.hid hf9
        have HS9 := Lib.hid hs9
        have HB9 := Lib.hid (HB8'.out.trans (hb9.mono HB8.out.size))
        have HR9 := Lib.hid (show r ≤ ((q - 1 : Nat) : Int) from hr1)
        have hr1 : r ≤ 4 := by omega
        have HQ := Lib.hid HO2.out.1
        clear hf9 hs9 hb9
        go_wp2_with fail
        go_ret
        refine ⟨won + r, rfl, ?_, by omega, by have := HR9.out; have := HQ.out; omega, by rw [HO2.out.2.1]; exact HS9.out, HB9.out⟩
        rw [HWV.out, HEU.out]
        have := HF9.out.shift
        rw [← HO2.out.2.1] at this
        exact this
      · have hne : ((u.cs.length : Int) == 0) = false := by
          rw [beq_eq_false_iff_ne]
          intro e
          exact h0 (List.length_eq_zero_iff.1 (by omega))
        have HO2 : Hid (0 < m ∧ m + u.cs.length = 4 * q ∧ Evn q u ∧ won = 0) := Lib.hid ((HO.out.2.2.2.resolve_left fun h => h0 h.1).2)
        clear h0
        go_wp2_with (refine wpList_load_row rfl 76 (.tmp 11) rfl b rfl 76 T2 (0, 0) _ HR8.out Tryd.underlying76 rfl (by rw [HPZ.out.1]; exact size_tb) ?_)
        rw [← HT2.out]
        refine (HW.out bs bm n u q lo hi w8 HO.out.1 HO.out.2.1 HO2.out.2.2.1 HO2.out.1 HO2.out.2.1 HF.out.2.2.2.1 hlh2 hhi2 HF.out.2.2.1 HS8.out HT8.out HN.out).mono ?_
        rintro e w9 ⟨r, rfl, hf9, hr0, hr1, hs9, hb9⟩
        have HB9 := Lib.hid (HB8'.out.trans (hb9.mono HB8.out.size))
        have HF9 := Lib.hid hf9
        have HS9 := Lib.hid hs9
        have HR9 := Lib.hid hr1
        clear hf9 hs9 hb9 hr1
        go_wp2_with fail
        go_ret
        refine ⟨r, rfl, ?_, hr0, HR9.out, HS9.out.mono (Nat.add_le_add_left (Nat.sub_le _ _) _), HB9.out⟩
        rw [HWV.out, HO2.out.2.2.2, Nat.zero_add]
        exact HF9.out
end Go.Proofs.YtnbillhodbcfbaaDoor
