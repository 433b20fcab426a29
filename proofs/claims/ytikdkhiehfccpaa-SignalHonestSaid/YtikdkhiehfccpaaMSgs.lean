/- SgS, SgX in one text. -/
import Derived.Test.YtikdkhiehfccpaaRelyG
import Derived.Test.YtikdkhiehfccpaaMSgl
import Derived.Deep.Upon

/- Regions that draw their order and append rules to one slice, operation by operation: what is said of each. -/
namespace Go.Proofs.Ytikdkhiehfccpaa
open Go.RowKit Go.Sort Go.Shelf Cnt

theorem Done.set_same (f : Done) (i : Nat) (v : Value) : f.set i v i = some v := by unfold Done.set; rw [if_pos rfl]
theorem Done.set_other (f : Done) {i j : Nat} (v : Value) (h : j ≠ i) : f.set i v j = f j := by unfold Done.set; rw [if_neg h]
theorem Done.set_none {f : Done} {i : Nat} {v : Value} (n : Nat) (h : f.set i v n = none) : f n = none := by
  unfold Done.set at h
  split at h
  · cases h
  · exact h
theorem none_of {ops : List Oper} {f : Done} (hcl : ∀ j, (f j).isSome = true → ∀ k ∈ waits ops j, (f k).isSome = true) {i : Nat} (hi : f i = none) {j : Nat} (hm : i ∈ waits ops j) : f j = none := by
  cases h : f j with
  | none => rfl
  | some x => have := hcl j (by rw [h]; rfl) i hm; rw [hi] at this; cases this
theorem uncons {α : Type} {vs : List α} {n : Nat} (h : vs.length = n + 1) : ∃ v t, vs = v :: t ∧ t.length = n := by
  cases vs with
  | nil => cases h
  | cons v t => exact ⟨v, t, rfl, by simpa using h⟩
/-- something said of a value that stays while one block is written and others are made -/
def Keeps (p : World → Option Nat → Value → Prop) : Prop := ∀ w w' row row' v, p w row v → w.grownBy w' row → (row' = row ∨ ∃ k, row' = some k ∧ w.heap.size ≤ k) → p w' row' v
/-- what is said of a value: which one it is; something that stays; that it is a slice of rules of the call's own, till another operation takes it over -/
inductive SpL where
  | eq (v : Value)
  | pr (p : World → Option Nat → Value → Prop) (h : Keeps p)
  | own (ls : List Rl) (next : Nat)
/-- v is a slice of rules of the call's own over the block row -/
def OwnLT (w : World) (B : Nat) (row : Option Nat) (ls : List Rl) (v : Value) : Prop := ∃ ps, rlsOf ps = ls ∧ OwnL w B v ps ∧ v.ownBlock = row ∧ v ≠ .slice none 0 0
def SpL.holds (B : Nat) : SpL → Done → World → Option Nat → Value → Prop
  | .eq x, _, _, _, v => v = x
  | .pr p _, _, w, row, v => p w row v
  | .own ls n, f, w, row, v => f n = none → OwnLT w B row ls v
structure FL (w0 : World) (l : List SpL) (f : Done) (w : World) (row : Option Nat) : Prop where
  below : Below w0.heap.size w0 w
  lt : ∀ k, row = some k → w0.heap.size ≤ k ∧ k < w.heap.size
  each : ∀ j s v, l[j]? = some s → f j = some v → s.holds w0.heap.size f w row v
def FG (w0 : World) (l : List SpL) (f : Done) (w : World) : Prop := ∃ row, FL w0 l f w row
theorem fg_start (w0 : World) (l : List SpL) : FG w0 l (fun _ => none) w0.drew := ⟨none, (Below.refl _ _).drew, (fun _ h => by cases h), fun _ _ _ _ h => by cases h⟩
theorem OwnLT.later {w w' : World} {B : Nat} {row : Option Nat} {ls : List Rl} {v : Value} (h : OwnLT w B row ls v) (hb : Below w.heap.size w w') : OwnLT w' B row ls v := by
  obtain ⟨ps, h1, h2, h3⟩ := h
  exact ⟨ps, h1, h2.later hb, h3⟩
/-- an operation that turns nothing that was there -/
theorem FL.step {w0 : World} {l : List SpL} {f : Done} {w w' : World} {row : Option Nat} (h : FL w0 l f w row) (i : Nat) (s : SpL) (v : Value) (hs : l[i]? = some s) (hb : Below w.heap.size w w') (hv : s.holds w0.heap.size (f.set i v) w' row v) : FG w0 l (f.set i v) w' := by
  refine ⟨row, h.below.trans (hb.mono h.below.size), fun k hk => ⟨(h.lt k hk).1, Nat.lt_of_lt_of_le (h.lt k hk).2 hb.size⟩, fun j sj x hj hx => ?_⟩
  by_cases hji : j = i
  · subst hji
    rw [hs] at hj; injection hj with hj; subst hj
    rw [Done.set_same] at hx; injection hx with hx; subst hx
    exact hv
  · rw [Done.set_other f v hji] at hx
    have := h.each j sj x hj hx
    cases sj with
    | eq y => exact this
    | pr p hp => exact hp _ _ _ _ _ this (grownBy_below hb row) (.inl rfl)
    | own ls n => exact fun hn => (this (Done.set_none n hn)).later hb
/-- an operation that makes the slice, or appends to it -/
theorem FL.turn {w0 : World} {l : List SpL} {f : Done} {w w' : World} {row row' : Option Nat} (h : FL w0 l f w row) (i : Nat) (ls : List Rl) (n : Nat) (v : Value) (hs : l[i]? = some (.own ls n)) (hg : w.grownBy w' row) (hr : row' = row ∨ ∃ k, row' = some k ∧ w.heap.size ≤ k) 
    (hv : OwnLT w' w0.heap.size row' ls v) (hone : ∀ j ms m, l[j]? = some (.own ms m) → j = i ∨ m = i ∨ f j = none ∨ (f m).isSome = true) : FG w0 l (f.set i v) w' := by
  have hl : ∀ k, row' = some k → k < w'.heap.size := fun k hk => by
    obtain ⟨ps, _, h2, h3, _⟩ := hv
    exact (World.ownsRow.lt h2.own.2 k (h3.trans hk)).2
  refine ⟨row', h.below.grown hg h.below.size (fun k hk => (h.lt k hk).1), fun k hk => ⟨?_, hl k hk⟩, fun j sj x hj hx => ?_⟩
  · rcases hr with e | ⟨k', e, hk'⟩
    · exact (h.lt k (e ▸ hk)).1
    · rw [e] at hk; injection hk with hk; subst hk
      exact Nat.le_trans h.below.size hk'
  · by_cases hji : j = i
    · subst hji
      rw [hs] at hj; injection hj with hj; subst hj
      rw [Done.set_same] at hx; injection hx with hx; subst hx
      exact fun _ => hv
    · rw [Done.set_other f v hji] at hx
      have hold := h.each j sj x hj hx
      cases sj with
      | eq y => exact hold
      | pr p hp => exact hp _ _ _ _ _ hold hg hr
      | own ms m =>
        intro hm
        rcases hone j ms m hj with e | e | e | e
        · exact absurd e hji
        · subst e; rw [Done.set_same] at hm; cases hm
        · rw [e] at hx; cases hx
        · rw [Done.set_none m hm] at e; cases e
/-- a block that stays -/
theorem keeps_row (mk : Nat → Value) (B : Nat) (T : TypeId) (arr : Array Value) : Keeps fun w row v => ∃ g, v = mk g ∧ Row w g T arr ∧ row ≠ some g ∧ B ≤ g := by
  rintro w w' row row' v ⟨g, h1, h2, h3, h4⟩ hg hr
  refine ⟨g, h1, (hg.block g h2.lt (fun e => h3 e.symm)).trans h2, ?_, h4⟩
  rcases hr with e | ⟨k, e, hk⟩
  · rw [e]; exact h3
  · rw [e]
    intro e2
    injection e2 with e2
    have := h2.lt
    omega
theorem OwnL.made0 (w : World) (base : Nat) (h : base ≤ w.heap.size) : OwnL (w.alloc (.cells #[] 63)) base (.slice (some ⟨w.heap.size, 0, none⟩) 0 0) [] :=
  ⟨⟨encL_len, World.ownsRow_made w #[] 0 h (by unfold maxLen; omega) rfl⟩, (fun _ h => nomatch h), fun _ h => nomatch h⟩
/-- append, as an operation of such a region -/
theorem run_appL {w : World} (ty : TypeId) (base : Nat) (u : Value) (ps qs : List PL) (hown : OwnL w base u ps) (ad : Addr) (k c : Nat) (hk : qs.length = k) (hy : ∀ j x, (qs.flatMap encL)[j]? = some x → w.cell? (ad.add j) = some x)
    (hqr : ∀ p ∈ qs, RgC w p.2.1 p.2.2 p.1.rs) (hqn : ∀ p ∈ qs, p.1.rs ≠ [] → ∀ ad, p.2.1 = some ad → u.ownBlock ≠ some ad.block)
    (hbytes : ps.length + k ≤ 100000) (hbase : base ≤ w.heap.size) :
    ∃ v' w', (Builtin.append_ #[23, 23] ty #[u, .slice (some ad) k c]).run Try.prog w = .ok v' w' ∧ OwnL w' base v' (ps ++ qs) ∧ w.grownBy w' u.ownBlock ∧ (v'.ownBlock = u.ownBlock ∨ v'.ownBlock = some w.heap.size) ∧ (u ≠ .slice none 0 0 → v' ≠ .slice none 0 0) := by
  obtain ⟨i0, hi, hz0, hz1, hz2⟩ := info_parts info_rl
  obtain ⟨v', w', hr, h1, h3, h5, h4⟩ := run_append_own_at (P := Try.prog) (w := w) base 23 ty 63 i0 _ 2 32 Try.underlying23 hi hz0 hz1 hz2 rfl (by decide) u ps.length (ps.flatMap encL) hown.own.2 ad k c (qs.flatMap encL) (by rw [flat_len encL_len, hk]) hy (fun x hx => by obtain ⟨y, _, h2⟩ := List.mem_flatMap.1 hx; exact encL_one y x h2) (by unfold maxLen; omega) (by omega) hbase
  refine ⟨v', w', hr, ?_, h3, h4, fun hu e => hu (h5.1 e).1⟩
  have hall : ∀ p ∈ ps ++ qs, RgC w p.2.1 p.2.2 p.1.rs ∧ (p.1.rs ≠ [] → ∀ ad, p.2.1 = some ad → u.ownBlock ≠ some ad.block) := by
    intro p hp
    rcases List.mem_append.1 hp with hp | hp
    · exact ⟨hown.rg p hp, hown.ne p hp⟩
    · exact ⟨hqr p hp, hqn p hp⟩
  refine ⟨⟨encL_len, ?_⟩, fun p hp => (hall p hp).1.grown h3 (hall p hp).2, fun p hp hr ad' had => ?_⟩
  · rw [List.length_append, List.flatMap_append, hk]; exact h1
  · rcases h4 with e | e
    · rw [e]; exact (hall p hp).2 hr ad' had
    · rw [e]
      rcases (hall p hp).1.rgs.cells with h0 | ⟨b, off, ha, hlt, _⟩
      · exact absurd (List.eq_nil_of_length_eq_zero h0) hr
      · rw [had] at ha
        obtain rfl := Option.some.inj ha
        intro e2
        simp at e2
        omega
/-- the same, from any slice -/
theorem ok_appL {o : Oper} {ρ : Operand → Value} {w : World} {R : Value → World → Prop} (s x : Operand)
    (ho : o.op = .call { callee := .builtin .append, args := #[s, x], argTypes := #[23, 23] })
    (base : Nat) (u : Value) (ls ms : List Rl) (row : Option Nat) (hs : ρ s = u) (hown : OwnLT w base row ls u) (a : Option Addr) (k c : Nat) (hx : ρ x = .slice a k c) (qs : List PL) (hq : rlsOf qs = ms) (hk : qs.length = k) (hc : a = none → k = 0 ∧ c = 0)
    (hy : ∀ ad, a = some ad → ∀ j x, (qs.flatMap encL)[j]? = some x → w.cell? (ad.add j) = some x)
    (hqr : ∀ p ∈ qs, RgC w p.2.1 p.2.2 p.1.rs) (hqn : ∀ p ∈ qs, p.1.rs ≠ [] → ∀ ad, p.2.1 = some ad → row ≠ some ad.block)
    (hbytes : ls.length + k ≤ 100000) (hbase : base ≤ w.heap.size)
    (h : ∀ v' w' row', OwnLT w' base row' (ls ++ ms) v' → w.grownBy w' row → (row' = row ∨ ∃ k, row' = some k ∧ w.heap.size ≤ k) → R v' w') : OpOk Try.prog o ρ w R := by
  obtain ⟨ps, hp, ho1, hrow, hnn⟩ := hown
  subst hrow
  cases a with
  | some ad =>
    obtain ⟨v', w', hr, h1, h2, h3, h4⟩ := run_appL o.type base u ps qs ho1 ad k c hk (hy ad rfl) hqr hqn (by rw [← hp] at hbytes; simpa [rlsOf] using hbytes) hbase
    refine ok_value (v := v') (w' := w') ?_ (h v' w' v'.ownBlock ⟨ps ++ qs, by rw [← hp, ← hq]; simp [rlsOf], h1, rfl, h4 hnn⟩ h2 (h3.imp id fun e => ⟨_, e, Nat.le_refl _⟩))
    unfold execOp
    simp only [ho, resolve, invoke, builtin, Sem.run_bind, Sem.run_pure, Result.andThen_ok, List.map_toArray, List.map_cons, List.map_nil, hs, hx, hr]
  | none =>
    obtain ⟨rfl, rfl⟩ := hc rfl
    obtain rfl : qs = [] := List.eq_nil_of_length_eq_zero hk
    obtain rfl : ms = [] := hq.symm
    obtain ⟨i0, hi, hz0, hz1, hz2⟩ := info_parts info_rl
    have hsrc : Src Try.prog i0.size 23 (.slice none 0 0) 0 [] w := Src.ofNil w Try.underlying23 _
    rcases ho1.own.form with ⟨e, _⟩ | ⟨g, cap, e, _, _, hle, _⟩
    · exact absurd e hnn
    · have hr := run_append_nothing (P := Try.prog) w 23 23 o.type 63 i0 Try.underlying23 hi (some ⟨g, 0, none⟩) ps.length cap hle (.slice none 0 0) hsrc
      refine ok_value (v := u) (w' := w) ?_ (h u w u.ownBlock ⟨ps, by rw [List.append_nil]; exact hp, ho1, rfl, hnn⟩ ⟨rfl, rfl, rfl, Nat.le_refl _, fun _ _ _ => rfl⟩ (.inl rfl))
      rw [← e] at hr
      unfold execOp
      simp only [ho, resolve, invoke, builtin, Sem.run_bind, Sem.run_pure, Result.andThen_ok, List.map_toArray, List.map_cons, List.map_nil, hs, hx, hr]
/-- the cells of a block, as the source of an append -/
theorem row_src {w : World} {g : Nat} {T : TypeId} {l : List Value} (h : Row w g T l.toArray) : ∀ (j : Nat) (x : Value), l[j]? = some x → ∀ ad, some (⟨g, 0, none⟩ : Addr) = some ad → w.cell? (ad.add j) = some x := by
  intro j x hx ad had
  obtain rfl := Option.some.inj had
  have := h.cell j
  rw [List.getElem?_toArray, hx] at this
  unfold Addr.add
  split
  · rename_i h0; rw [h0] at this; exact this
  · simpa using this
/-- a slice of rules in memory, with where their ranges lie -/
structure LsM (w : World) (a : Option Addr) (c : Nat) (ps : List PL) : Prop where
  rls : Rls w a ps.length (rlsOf ps)
  rg : ∀ p ∈ ps, RgC w p.2.1 p.2.2 p.1.rs
  cells : ∀ j u, (ps.flatMap encL)[j]? = some u → ∀ ad, a = some ad → w.cell? (ad.add j) = some u
  cap : ps.length ≤ c
  nil : a = none → ps.length = 0 ∧ c = 0
  blk : ∀ ad, a = some ad → ∃ g, ad = ⟨g, 0, none⟩ ∧ g < w.heap.size
theorem OwnL.lsm {w : World} {base : Nat} {v : Value} {ps : List PL} (h : OwnL w base v ps) (hl : ps.length ≤ 100000) : ∃ a c, v = .slice a ps.length c ∧ LsM w a c ps := by
  obtain ⟨a, c, h1, h2, h3, h4, h5, h6, h7⟩ := h.rls hl
  exact ⟨a, c, h1, h2, h.rg, h7, h3, fun e => ⟨by rw [h5 e]; rfl, h4 e⟩, h6⟩
theorem LsM.below {w w' : World} {a : Option Addr} {c : Nat} {ps : List PL} (h : LsM w a c ps) (hb : Below w.heap.size w w') : LsM w' a c ps := by
  refine ⟨h.rls.below (Nat.le_refl _) hb, fun p hp => (h.rg p hp).below hb, fun j u hu ad had => ?_, h.cap, h.nil, fun ad had => ?_⟩
  · obtain ⟨g, e, hg⟩ := h.blk ad had
    rw [← h.cells j u hu ad had]
    subst e
    have : ∀ q : Addr, q.block = g → w'.cell? q = w.cell? q := fun q hq => by simp only [World.cell?, hq, hb.block g hg]
    exact this _ (by unfold Addr.add; split <;> rfl)
  · obtain ⟨g, e, hg⟩ := h.blk ad had
    exact ⟨g, e, Nat.lt_of_lt_of_le hg hb.size⟩
/-- ranges in memory lie in blocks that are there -/
theorem RgC.old {w : World} {ai : Option Addr} {ci : Nat} {rs : List Rg} (h : RgC w ai ci rs) (hr : rs ≠ []) (ad : Addr) (had : ai = some ad) : ad.block < w.heap.size := by
  rcases h.rgs.cells with h0 | ⟨b, off, ha, hlt, _⟩
  · exact absurd (List.eq_nil_of_length_eq_zero h0) hr
  · rw [had] at ha
    obtain rfl := Option.some.inj ha
    exact hlt
theorem rls_take (ps : List PL) (k : Nat) : rlsOf (ps.take k) = (rlsOf ps).take k := by unfold rlsOf; rw [List.map_take]
theorem rls_drop (ps : List PL) (k : Nat) : rlsOf (ps.drop k) = (rlsOf ps).drop k := by unfold rlsOf; rw [List.map_drop]
theorem LsM.take {w : World} {a : Option Addr} {c : Nat} {ps : List PL} (h : LsM w a c ps) (k : Nat) : ∀ ad, a = some ad → ∀ j x, ((ps.take k).flatMap encL)[j]? = some x → w.cell? (ad.add j) = some x := fun ad had j x hx => by
  refine h.cells j x ?_ ad had
  have e : ps.flatMap encL = (ps.take k).flatMap encL ++ (ps.drop k).flatMap encL := by rw [← List.flatMap_append, List.take_append_drop]
  rw [e, List.getElem?_append_left (List.getElem?_eq_some_iff.1 hx).1]
  exact hx
theorem LsM.drop {w : World} {a : Option Addr} {c : Nat} {ps : List PL} (h : LsM w a c ps) (k : Nat) (hk : k ≤ ps.length) : ∀ ad, (a.map fun ad => ad.add (k * 2)) = some ad → ∀ j x, ((ps.drop k).flatMap encL)[j]? = some x → w.cell? (ad.add j) = some x := fun ad had j x hx => by
  cases a with
  | none => cases had
  | some a =>
    obtain rfl := Option.some.inj had
    have e : ps.flatMap encL = (ps.take k).flatMap encL ++ (ps.drop k).flatMap encL := by rw [← List.flatMap_append, List.take_append_drop]
    have hl : ((ps.take k).flatMap encL).length = k * 2 := by rw [flat_len encL_len, List.length_take]; omega
    have h2 := h.cells (k * 2 + j) x (by rw [e, List.getElem?_append_right (by omega), hl, show k * 2 + j - k * 2 = j by omega]; exact hx) a rfl
    obtain ⟨g, e2, _⟩ := h.blk a rfl
    subst e2
    have e3 : ∀ q, (⟨g, 0, none⟩ : Addr).add q = ⟨g, q, none⟩ := fun q => by
      unfold Addr.add
      split
      · rename_i h0; rw [h0]
      · simp
    rw [e3] at h2
    show w.cell? (((⟨g, 0, none⟩ : Addr).add (k * 2)).add j) = some x
    rw [e3]
    have e4 : (⟨g, k * 2, none⟩ : Addr).add j = ⟨g, k * 2 + j, none⟩ := by
      unfold Addr.add
      split
      · rename_i h0; rw [h0]; rfl
      · rfl
    rw [e4]; exact h2
theorem LsM.dropC {w : World} {a : Option Addr} {c : Nat} {ps : List PL} (h : LsM w a c ps) (k : Nat) (hk : k ≤ ps.length) : ∀ ad, (if c = k then a else Option.map (fun ad => ad.add (k * 2)) a) = some ad → ∀ j x, ((ps.drop k).flatMap encL)[j]? = some x → w.cell? (ad.add j) = some x := fun ad had j x hx => by
  split at had
  · rename_i e
    have := h.cap
    rw [List.drop_eq_nil_of_le (by omega)] at hx
    simp at hx
  · exact h.drop k hk ad had j x hx
/-- two rules in a block, the second one's range in a block of its own -/
theorem keeps_two (B bF : Nat) : Keeps fun w row v => ∃ g g2, v = .slice (some ⟨g, 0, none⟩) 2 2 ∧ Row w g 63 #[.slice (some ⟨bF, 0, none⟩) 1 1, .int .i64 9, .slice (some ⟨g2, 0, none⟩) 1 1, .int .i64 1] ∧ Row w g2 73 (rgP 0 40).arr ∧ row ≠ some g ∧ row ≠ some g2 ∧ B ≤ g2 := by
  rintro w w' row row' v ⟨g, g2, h1, h2, h3, h4, h5, h6⟩ hg hr
  have key : ∀ {k : Nat}, row ≠ some k → k < w.heap.size → row' ≠ some k := fun hk hlt e => by
    rcases hr with e2 | ⟨k2, e2, hk2⟩
    · exact hk (e2 ▸ e)
    · rw [e2] at e
      injection e with e
      omega
  exact ⟨g, g2, h1, (hg.block g h2.lt (fun e => h4 e.symm)).trans h2, (hg.block g2 h3.lt (fun e => h5 e.symm)).trans h3, key h4 h2.lt, key h5 h3.lt, h6⟩
/-- one range in a block -/
theorem rc_row {w : World} {g : Nat} {T : TypeId} {r : Rg} (h : Row w g T r.arr) : RgC w (some ⟨g, 0, none⟩) 1 [r] := by
  refine ⟨⟨rfl, by simp, .inr ⟨g, 0, rfl, h.lt, fun i x hx j hj => ?_⟩⟩, Nat.le_refl _, fun e => by cases e⟩
  match i, hx with
  | 0, hx =>
    obtain rfl := Option.some.inj hx
    have := h.cell j
    rw [show (0 + 0 * 10 + j) = j by omega, this]
    have : j = 0 ∨ j = 1 ∨ j = 2 ∨ j = 3 ∨ j = 4 ∨ j = 5 ∨ j = 6 ∨ j = 7 ∨ j = 8 ∨ j = 9 := by omega
    rcases this with rfl | rfl | rfl | rfl | rfl | rfl | rfl | rfl | rfl | rfl <;> rfl
  | i + 1, hx => simp at hx
end Go.Proofs.Ytikdkhiehfccpaa

/- Slices of records with one slice of ranges each (rules, claims; the program's and the reference's), a call's own: append, and regions that draw their order and append to one such slice. -/
namespace Go.Proofs.Ytikdkhiehfccpaa
open Go.RowKit Go.Sort Go.Shelf Cnt

/-- a kind of such records -/
structure Kd where
  α : Type
  rs : α → List Rg
  enc : α → Option Addr → Nat → List Value
  k : Nat
  T : TypeId
  TS : TypeId
  z : Value
  bytes : Nat
  len : ∀ x a c, (enc x a c).length = k
  one : ∀ x a c, ∀ u ∈ enc x a c, u.oneCell' = true
  under : Try.prog.underlying TS = some (.slice T)
  info : (Try.prog.info? T).map (fun i => (i.zero, i.size, i.bytes)) = some (some z, k, bytes)
  kpos : 0 < k
  zs : z.cells.size = k
  small : bytes ≤ 1000
abbrev Kd.P (K : Kd) : Type := K.α × Option Addr × Nat
def Kd.e (K : Kd) (p : K.P) : List Value := K.enc p.1 p.2.1 p.2.2
theorem Kd.e_len (K : Kd) (p : K.P) : (K.e p).length = K.k := K.len _ _ _
def Kd.of (K : Kd) (ps : List K.P) : List K.α := ps.map fun p => p.1
/-- such a slice, the call's own -/
structure OwnK (K : Kd) (w : World) (base : Nat) (v : Value) (ps : List K.P) : Prop where
  own : Owns K.e K.k K.T w base v ps
  rg : ∀ p ∈ ps, RgC w p.2.1 p.2.2 (K.rs p.1)
  ne : ∀ p ∈ ps, K.rs p.1 ≠ [] → ∀ ad, p.2.1 = some ad → v.ownBlock ≠ some ad.block
theorem OwnK.nil (K : Kd) (w : World) (base : Nat) : OwnK K w base (.slice none 0 0) [] := ⟨Owns.nil K.e_len _ _, (fun _ h => nomatch h), fun _ h => nomatch h⟩
theorem OwnK.later {K : Kd} {w w' : World} {base : Nat} {v : Value} {ps : List K.P} (h : OwnK K w base v ps) (hb : Below w.heap.size w w') : OwnK K w' base v ps :=
  ⟨h.own.below hb, fun p hp => (h.rg p hp).below hb, h.ne⟩
theorem OwnK.mono {K : Kd} {w : World} {base base' : Nat} {v : Value} {ps : List K.P} (h : OwnK K w base v ps) (hb : base' ≤ base) : OwnK K w base' v ps := ⟨h.own.mono hb, h.rg, h.ne⟩
theorem OwnK.made0 (K : Kd) (w : World) (base : Nat) (h : base ≤ w.heap.size) : OwnK K (w.alloc (.cells #[] K.T)) base (.slice (some ⟨w.heap.size, 0, none⟩) 0 0) [] :=
  ⟨⟨K.e_len, World.ownsRow_made w #[] 0 h (by unfold maxLen; omega) (by simp)⟩, (fun _ h => nomatch h), fun _ h => nomatch h⟩
theorem flatK_get {α : Type} {enc : α → List Value} {m : Nat} (hlen : ∀ x, (enc x).length = m) : ∀ (ps : List α) (i j : Nat) (p : α), ps[i]? = some p → j < m → (ps.flatMap enc)[i * m + j]? = (enc p)[j]?
  | [], i, j, p, h, _ => by simp at h
  | q :: ps, 0, j, p, h, hj => by
    simp at h
    subst h
    rw [List.flatMap_cons, List.getElem?_append_left (by rw [hlen]; omega)]
    simp
  | q :: ps, i + 1, j, p, h, hj => by
    have e : (i + 1) * m + j - (enc q).length = i * m + j := by rw [hlen, Nat.succ_mul]; omega
    rw [List.flatMap_cons, List.getElem?_append_right (by rw [hlen, Nat.succ_mul]; omega), e]
    exact flatK_get hlen ps i j p (by simpa using h) hj
/-- append, as an operation -/
theorem run_appK {K : Kd} {w : World} (ty : TypeId) (base : Nat) (u : Value) (ps qs : List K.P) (hown : OwnK K w base u ps) (ad : Addr) (k c : Nat) (hk : qs.length = k) (hy : ∀ j x, (qs.flatMap K.e)[j]? = some x → w.cell? (ad.add j) = some x)
    (hqr : ∀ p ∈ qs, RgC w p.2.1 p.2.2 (K.rs p.1)) (hqn : ∀ p ∈ qs, K.rs p.1 ≠ [] → ∀ ad, p.2.1 = some ad → u.ownBlock ≠ some ad.block)
    (hbytes : ps.length + k ≤ 100000) (hbase : base ≤ w.heap.size) :
    ∃ v' w', (Builtin.append_ #[K.TS, K.TS] ty #[u, .slice (some ad) k c]).run Try.prog w = .ok v' w' ∧ OwnK K w' base v' (ps ++ qs) ∧ w.grownBy w' u.ownBlock ∧ (v'.ownBlock = u.ownBlock ∨ v'.ownBlock = some w.heap.size) := by
  obtain ⟨i0, hi, hz0, hz1, hz2⟩ := info_parts K.info
  have hbb : (ps.length + k) * K.bytes ≤ 140737488355328 := Nat.le_trans (Nat.mul_le_mul hbytes K.small) (by decide)
  obtain ⟨v', w', hr, h1, h3, h5, h4⟩ := run_append_own_at (P := Try.prog) (w := w) base K.TS ty K.T i0 _ K.k K.bytes K.under hi hz0 hz1 hz2 K.zs K.kpos u ps.length (ps.flatMap K.e) hown.own.2 ad k c (qs.flatMap K.e) (by rw [flat_len K.e_len, hk]) hy (fun x hx => by obtain ⟨y, _, h2⟩ := List.mem_flatMap.1 hx; exact K.one _ _ _ x h2) (by unfold maxLen; omega) hbb hbase
  refine ⟨v', w', hr, ?_, h3, h4⟩
  have hall : ∀ p ∈ ps ++ qs, RgC w p.2.1 p.2.2 (K.rs p.1) ∧ (K.rs p.1 ≠ [] → ∀ ad, p.2.1 = some ad → u.ownBlock ≠ some ad.block) := by
    intro p hp
    rcases List.mem_append.1 hp with hp | hp
    · exact ⟨hown.rg p hp, hown.ne p hp⟩
    · exact ⟨hqr p hp, hqn p hp⟩
  refine ⟨⟨K.e_len, ?_⟩, fun p hp => (hall p hp).1.grown h3 (hall p hp).2, fun p hp hr ad' had => ?_⟩
  · rw [List.length_append, List.flatMap_append, hk]; exact h1
  · rcases h4 with e | e
    · rw [e]; exact (hall p hp).2 hr ad' had
    · rw [e]
      rcases (hall p hp).1.rgs.cells with h0 | ⟨b, off, ha, hlt, _⟩
      · exact absurd (List.eq_nil_of_length_eq_zero h0) hr
      · rw [had] at ha
        obtain rfl := Option.some.inj ha
        intro e2
        simp at e2
        omega
/-- what is said of a value in such a region -/
inductive SpK (α : Type) where
  | eq (v : Value)
  | pr (p : World → Option Nat → Value → Prop) (h : Keeps p)
  | own (ls : List α) (next : Nat)
/-- v is such a slice over the block row -/
def OwnKT (K : Kd) (w : World) (B : Nat) (row : Option Nat) (ls : List K.α) (v : Value) : Prop := ∃ ps : List K.P, K.of ps = ls ∧ OwnK K w B v ps ∧ v.ownBlock = row
def SpK.holds (K : Kd) (B : Nat) : SpK K.α → Done → World → Option Nat → Value → Prop
  | .eq x, _, _, _, v => v = x
  | .pr p _, _, w, row, v => p w row v
  | .own ls n, f, w, row, v => f n = none → OwnKT K w B row ls v
/-- between the operations of a region that begins in w0 with the slice v0 over the block row0, which operation n0 takes over -/
structure FX (K : Kd) (B : Nat) (w0 : World) (v0 : Value) (ls0 : List K.α) (n0 : Nat) (l : List (SpK K.α)) (f : Done) (w : World) (row : Option Nat) : Prop where
  grown : w0.grownBy w v0.ownBlock
  base : B ≤ w0.heap.size
  lt : row = v0.ownBlock ∨ ∃ k, row = some k ∧ w0.heap.size ≤ k ∧ k < w.heap.size
  start : f n0 = none → row = v0.ownBlock ∧ OwnKT K w B row ls0 v0
  first : ∀ k, v0.ownBlock = some k → B ≤ k ∧ k < w0.heap.size
  each : ∀ j s v, l[j]? = some s → f j = some v → s.holds K B f w row v
def FXG (K : Kd) (B : Nat) (w0 : World) (v0 : Value) (ls0 : List K.α) (n0 : Nat) (l : List (SpK K.α)) (f : Done) (w : World) : Prop := ∃ row, FX K B w0 v0 ls0 n0 l f w row
theorem OwnKT.later {K : Kd} {w w' : World} {B : Nat} {row : Option Nat} {ls : List K.α} {v : Value} (h : OwnKT K w B row ls v) (hb : Below w.heap.size w w') : OwnKT K w' B row ls v := by
  obtain ⟨ps, h1, h2, h3⟩ := h
  exact ⟨ps, h1, h2.later hb, h3⟩
theorem fx_start (K : Kd) (B : Nat) (w0 : World) (v0 : Value) (ps : List K.P) (n0 : Nat) (l : List (SpK K.α)) (h : OwnK K w0 B v0 ps) (hB : B ≤ w0.heap.size) : FXG K B w0 v0 (K.of ps) n0 l (fun _ => none) w0.drew :=
  ⟨v0.ownBlock, grownBy_below ((Below.refl _ _).drew) _, hB, .inl rfl, fun _ => ⟨rfl, ps, rfl, h.later ((Below.refl _ _).drew), rfl⟩, fun k hk => World.ownsRow.lt h.own.2 k hk, fun _ _ _ _ h => by cases h⟩
theorem FX.below {K : Kd} {B : Nat} {w0 : World} {v0 : Value} {ls0 : List K.α} {n0 : Nat} {l : List (SpK K.α)} {f : Done} {w : World} {row : Option Nat} (h : FX K B w0 v0 ls0 n0 l f w row) : Below B w0 w :=
  (Below.refl B w0).grown h.grown h.base (fun k hk => (h.first k hk).1)
theorem FX.lt2 {K : Kd} {B : Nat} {w0 : World} {v0 : Value} {ls0 : List K.α} {n0 : Nat} {l : List (SpK K.α)} {f : Done} {w : World} {row : Option Nat} (h : FX K B w0 v0 ls0 n0 l f w row) : ∀ k, row = some k → B ≤ k ∧ k < w.heap.size := by
  intro k hk
  rcases h.lt with e | ⟨k', e, h1, h2⟩
  · have := h.first k (e ▸ hk); exact ⟨this.1, Nat.lt_of_lt_of_le this.2 h.grown.size⟩
  · rw [e] at hk; injection hk with hk; subst hk; exact ⟨Nat.le_trans h.base h1, h2⟩
/-- an operation that turns nothing that was there -/
theorem FX.step {K : Kd} {B : Nat} {w0 : World} {v0 : Value} {ls0 : List K.α} {n0 : Nat} {l : List (SpK K.α)} {f : Done} {w w' : World} {row : Option Nat} (h : FX K B w0 v0 ls0 n0 l f w row) (i : Nat) (s : SpK K.α) (v : Value) (hs : l[i]? = some s) (hb : Below w.heap.size w w') (hv : s.holds K B (f.set i v) w' row v) : FXG K B w0 v0 ls0 n0 l (f.set i v) w' := by
  refine ⟨row, grownBy_then h.grown hb, h.base, h.lt.imp id fun ⟨k, h1, h2, h3⟩ => ⟨k, h1, h2, Nat.lt_of_lt_of_le h3 hb.size⟩, fun hn => ?_, h.first, fun j sj x hj hx => ?_⟩
  · have := h.start (Done.set_none _ hn)
    exact ⟨this.1, this.2.later hb⟩
  by_cases hji : j = i
  · subst hji
    rw [hs] at hj; injection hj with hj; subst hj
    rw [Done.set_same] at hx; injection hx with hx; subst hx
    exact hv
  · rw [Done.set_other f v hji] at hx
    have := h.each j sj x hj hx
    cases sj with
    | eq y => exact this
    | pr p hp => exact hp _ _ _ _ _ this (grownBy_below hb row) (.inl rfl)
    | own ls n => exact fun hn => (this (Done.set_none n hn)).later hb
/-- an operation that makes the slice, or appends to it -/
theorem FX.turn {K : Kd} {B : Nat} {w0 : World} {v0 : Value} {ls0 : List K.α} {n0 : Nat} {l : List (SpK K.α)} {f : Done} {w w' : World} {row row' : Option Nat} (h : FX K B w0 v0 ls0 n0 l f w row) (i : Nat) (ls : List K.α) (n : Nat) (v : Value) (hs : l[i]? = some (.own ls n)) (hg : w.grownBy w' row) (hr : row' = row ∨ ∃ k, row' = some k ∧ w.heap.size ≤ k)
    (hv : OwnKT K w' B row' ls v) (h0 : n0 = i ∨ (f n0).isSome = true) (hone : ∀ j ms m, l[j]? = some (.own ms m) → j = i ∨ m = i ∨ f j = none ∨ (f m).isSome = true) : FXG K B w0 v0 ls0 n0 l (f.set i v) w' := by
  have hl : ∀ k, row' = some k → k < w'.heap.size := fun k hk => by
    obtain ⟨ps, _, h2, h3⟩ := hv
    exact (World.ownsRow.lt h2.own.2 k (h3.trans hk)).2
  have hgr : w0.grownBy w' v0.ownBlock := by
    refine ⟨hg.os.trans h.grown.os, hg.tape.trans h.grown.tape, hg.output.trans h.grown.output, Nat.le_trans h.grown.size hg.size, fun k hk hne => ?_⟩
    rw [hg.block k (Nat.lt_of_lt_of_le hk h.grown.size) (fun e => ?_), h.grown.block k hk hne]
    rcases h.lt with e2 | ⟨k', e2, h1, _⟩
    · exact hne (e.trans e2)
    · rw [← e] at e2; injection e2 with e2; omega
  refine ⟨row', hgr, h.base, ?_, fun hn => ?_, h.first, fun j sj x hj hx => ?_⟩
  · rcases hr with e | ⟨k, e, hk⟩
    · rw [e]
      exact h.lt.imp id fun ⟨k, h1, h2, h3⟩ => ⟨k, h1, h2, Nat.lt_of_lt_of_le h3 hg.size⟩
    · exact .inr ⟨k, e, Nat.le_trans h.grown.size hk, hl k e⟩
  · rcases h0 with rfl | h0
    · rw [Done.set_same] at hn; cases hn
    · rw [Done.set_none n0 hn] at h0; cases h0
  · by_cases hji : j = i
    · subst hji
      rw [hs] at hj; injection hj with hj; subst hj
      rw [Done.set_same] at hx; injection hx with hx; subst hx
      exact fun _ => hv
    · rw [Done.set_other f v hji] at hx
      have hold := h.each j sj x hj hx
      cases sj with
      | eq y => exact hold
      | pr p hp => exact hp _ _ _ _ _ hold hg hr
      | own ms m =>
        intro hm
        rcases hone j ms m hj with e | e | e | e
        · exact absurd e hji
        · subst e; rw [Done.set_same] at hm; cases hm
        · rw [e] at hx; cases hx
        · rw [Done.set_none m hm] at e; cases e
/-- append of a slice that is there, as an operation of such a region -/
theorem ok_appK {K : Kd} {o : Oper} {ρ : Operand → Value} {w : World} {R : Value → World → Prop} (s x : Operand)
    (ho : o.op = .call { callee := .builtin .append, args := #[s, x], argTypes := #[K.TS, K.TS] })
    (base : Nat) (u : Value) (ls ms : List K.α) (row : Option Nat) (hs : ρ s = u) (hown : OwnKT K w base row ls u) (ad : Addr) (k c : Nat) (hx : ρ x = .slice (some ad) k c) (qs : List K.P) (hq : K.of qs = ms) (hk : qs.length = k)
    (hy : ∀ j x, (qs.flatMap K.e)[j]? = some x → w.cell? (ad.add j) = some x)
    (hqr : ∀ p ∈ qs, RgC w p.2.1 p.2.2 (K.rs p.1)) (hqn : ∀ p ∈ qs, K.rs p.1 ≠ [] → ∀ ad, p.2.1 = some ad → row ≠ some ad.block)
    (hbytes : ls.length + k ≤ 100000) (hbase : base ≤ w.heap.size)
    (h : ∀ v' w' row', OwnKT K w' base row' (ls ++ ms) v' → w.grownBy w' row → (row' = row ∨ ∃ k, row' = some k ∧ w.heap.size ≤ k) → R v' w') : OpOk Try.prog o ρ w R := by
  obtain ⟨ps, hp, ho1, hrow⟩ := hown
  subst hrow
  obtain ⟨v', w', hr, h1, h2, h3⟩ := run_appK o.type base u ps qs ho1 ad k c hk hy hqr hqn (by rw [← hp] at hbytes; simpa [Kd.of] using hbytes) hbase
  refine ok_value (v := v') (w' := w') ?_ (h v' w' v'.ownBlock ⟨ps ++ qs, by rw [← hp, ← hq]; simp [Kd.of], h1, rfl⟩ h2 (h3.imp id fun e => ⟨_, e, Nat.le_refl _⟩))
  unfold execOp
  simp only [ho, resolve, invoke, builtin, Sem.run_bind, Sem.run_pure, Result.andThen_ok, List.map_toArray, List.map_cons, List.map_nil, hs, hx, hr]
end Go.Proofs.Ytikdkhiehfccpaa
