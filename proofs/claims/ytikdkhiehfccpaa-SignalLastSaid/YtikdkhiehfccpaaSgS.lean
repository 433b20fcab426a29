/- Regions that draw their order and append rules to one slice, operation by operation: what is said of each. -/
import Derived.Test.YtikdkhiehfccpaaRelyG
import Derived.Test.YtikdkhiehfccpaaMSgl
import Derived.Deep.Upon
namespace Go.Proofs.Ytikdkhiehfccpaa
open Go.RowKit Go.Sort Go.Shelf Cnt

theorem Done.set_same (f : Done) (i : Nat) (v : Value) : f.set i v i = some v := by unfold Done.set; rw [if_pos rfl]
theorem Done.set_other (f : Done) {i j : Nat} (v : Value) (h : j ≠ i) : f.set i v j = f j := by unfold Done.set; rw [if_neg h]
theorem Done.set_none {f : Done} {i : Nat} {v : Value} (n : Nat) (h : f.set i v n = none) : f n = none := by
  unfold Done.set at h
  split at h
  · cases h
  · exact h
theorem none_of {ops : List Oper} {f : Done} (hcl : ∀ j, (f j).isSome = true → ∀ k ∈ waits ops j, (f k).isSome = true) {i : Nat} (hi : f i = none) {j : Nat} (hm : i ∈ waits ops j) : f j = none := by
  cases h : f j with
  | none => rfl
  | some x => have := hcl j (by rw [h]; rfl) i hm; rw [hi] at this; cases this
theorem uncons {α : Type} {vs : List α} {n : Nat} (h : vs.length = n + 1) : ∃ v t, vs = v :: t ∧ t.length = n := by
  cases vs with
  | nil => cases h
  | cons v t => exact ⟨v, t, rfl, by simpa using h⟩
/-- something said of a value that stays while one block is written and others are made -/
def Keeps (p : World → Option Nat → Value → Prop) : Prop := ∀ w w' row row' v, p w row v → w.grownBy w' row → (row' = row ∨ ∃ k, row' = some k ∧ w.heap.size ≤ k) → p w' row' v
/-- what is said of a value: which one it is; something that stays; that it is a slice of rules of the call's own, till another operation takes it over -/
inductive SpL where
  | eq (v : Value)
  | pr (p : World → Option Nat → Value → Prop) (h : Keeps p)
  | own (ls : List Rl) (next : Nat)
/-- v is a slice of rules of the call's own over the block row -/
def OwnT (w : World) (B : Nat) (row : Option Nat) (ls : List Rl) (v : Value) : Prop := ∃ ps, rlsOf ps = ls ∧ OwnL w B v ps ∧ v.ownBlock = row ∧ v ≠ .slice none 0 0
def SpL.holds (B : Nat) : SpL → Done → World → Option Nat → Value → Prop
  | .eq x, _, _, _, v => v = x
  | .pr p _, _, w, row, v => p w row v
  | .own ls n, f, w, row, v => f n = none → OwnT w B row ls v
structure FL (w0 : World) (l : List SpL) (f : Done) (w : World) (row : Option Nat) : Prop where
  below : Below w0.heap.size w0 w
  lt : ∀ k, row = some k → w0.heap.size ≤ k ∧ k < w.heap.size
  each : ∀ j s v, l[j]? = some s → f j = some v → s.holds w0.heap.size f w row v
def FG (w0 : World) (l : List SpL) (f : Done) (w : World) : Prop := ∃ row, FL w0 l f w row
theorem fg_start (w0 : World) (l : List SpL) : FG w0 l (fun _ => none) w0.drew := ⟨none, (Below.refl _ _).drew, (fun _ h => by cases h), fun _ _ _ _ h => by cases h⟩
theorem OwnT.later {w w' : World} {B : Nat} {row : Option Nat} {ls : List Rl} {v : Value} (h : OwnT w B row ls v) (hb : Below w.heap.size w w') : OwnT w' B row ls v := by
  obtain ⟨ps, h1, h2, h3⟩ := h
  exact ⟨ps, h1, h2.later hb, h3⟩
/-- an operation that turns nothing that was there -/
theorem FL.step {w0 : World} {l : List SpL} {f : Done} {w w' : World} {row : Option Nat} (h : FL w0 l f w row) (i : Nat) (s : SpL) (v : Value) (hs : l[i]? = some s) (hb : Below w.heap.size w w') (hv : s.holds w0.heap.size (f.set i v) w' row v) : FG w0 l (f.set i v) w' := by
  refine ⟨row, h.below.trans (hb.mono h.below.size), fun k hk => ⟨(h.lt k hk).1, Nat.lt_of_lt_of_le (h.lt k hk).2 hb.size⟩, fun j sj x hj hx => ?_⟩
  by_cases hji : j = i
  · subst hji
    rw [hs] at hj; injection hj with hj; subst hj
    rw [Done.set_same] at hx; injection hx with hx; subst hx
    exact hv
  · rw [Done.set_other f v hji] at hx
    have := h.each j sj x hj hx
    cases sj with
    | eq y => exact this
    | pr p hp => exact hp _ _ _ _ _ this (grownBy_below hb row) (.inl rfl)
    | own ls n => exact fun hn => (this (Done.set_none n hn)).later hb
/-- an operation that makes the slice, or appends to it -/
theorem FL.turn {w0 : World} {l : List SpL} {f : Done} {w w' : World} {row row' : Option Nat} (h : FL w0 l f w row) (i : Nat) (ls : List Rl) (n : Nat) (v : Value) (hs : l[i]? = some (.own ls n)) (hg : w.grownBy w' row) (hr : row' = row ∨ ∃ k, row' = some k ∧ w.heap.size ≤ k) 
    (hv : OwnT w' w0.heap.size row' ls v) (hone : ∀ j ms m, l[j]? = some (.own ms m) → j = i ∨ m = i ∨ f j = none ∨ (f m).isSome = true) : FG w0 l (f.set i v) w' := by
  have hl : ∀ k, row' = some k → k < w'.heap.size := fun k hk => by
    obtain ⟨ps, _, h2, h3, _⟩ := hv
    exact (World.ownsRow.lt h2.own.2 k (h3.trans hk)).2
  refine ⟨row', h.below.grown hg h.below.size (fun k hk => (h.lt k hk).1), fun k hk => ⟨?_, hl k hk⟩, fun j sj x hj hx => ?_⟩
  · rcases hr with e | ⟨k', e, hk'⟩
    · exact (h.lt k (e ▸ hk)).1
    · rw [e] at hk; injection hk with hk; subst hk
      exact Nat.le_trans h.below.size hk'
  · by_cases hji : j = i
    · subst hji
      rw [hs] at hj; injection hj with hj; subst hj
      rw [Done.set_same] at hx; injection hx with hx; subst hx
      exact fun _ => hv
    · rw [Done.set_other f v hji] at hx
      have hold := h.each j sj x hj hx
      cases sj with
      | eq y => exact hold
      | pr p hp => exact hp _ _ _ _ _ hold hg hr
      | own ms m =>
        intro hm
        rcases hone j ms m hj with e | e | e | e
        · exact absurd e hji
        · subst e; rw [Done.set_same] at hm; cases hm
        · rw [e] at hx; cases hx
        · rw [Done.set_none m hm] at e; cases e
/-- a block that stays -/
theorem keeps_row (mk : Nat → Value) (B : Nat) (T : TypeId) (arr : Array Value) : Keeps fun w row v => ∃ g, v = mk g ∧ Row w g T arr ∧ row ≠ some g ∧ B ≤ g := by
  rintro w w' row row' v ⟨g, h1, h2, h3, h4⟩ hg hr
  refine ⟨g, h1, (hg.block g h2.lt (fun e => h3 e.symm)).trans h2, ?_, h4⟩
  rcases hr with e | ⟨k, e, hk⟩
  · rw [e]; exact h3
  · rw [e]
    intro e2
    injection e2 with e2
    have := h2.lt
    omega
theorem OwnL.made0 (w : World) (base : Nat) (h : base ≤ w.heap.size) : OwnL (w.alloc (.cells #[] 63)) base (.slice (some ⟨w.heap.size, 0, none⟩) 0 0) [] :=
  ⟨⟨encL_len, World.ownsRow_made w #[] 0 h (by unfold maxLen; omega) rfl⟩, (fun _ h => nomatch h), fun _ h => nomatch h⟩
/-- append, as an operation of such a region -/
theorem run_appL {w : World} (ty : TypeId) (base : Nat) (u : Value) (ps qs : List PL) (hown : OwnL w base u ps) (ad : Addr) (k c : Nat) (hk : qs.length = k) (hy : ∀ j x, (qs.flatMap encL)[j]? = some x → w.cell? (ad.add j) = some x)
    (hqr : ∀ p ∈ qs, RgC w p.2.1 p.2.2 p.1.rs) (hqn : ∀ p ∈ qs, p.1.rs ≠ [] → ∀ ad, p.2.1 = some ad → u.ownBlock ≠ some ad.block)
    (hbytes : ps.length + k ≤ 100000) (hbase : base ≤ w.heap.size) :
    ∃ v' w', (Builtin.append_ #[23, 23] ty #[u, .slice (some ad) k c]).run Try.prog w = .ok v' w' ∧ OwnL w' base v' (ps ++ qs) ∧ w.grownBy w' u.ownBlock ∧ (v'.ownBlock = u.ownBlock ∨ v'.ownBlock = some w.heap.size) ∧ (u ≠ .slice none 0 0 → v' ≠ .slice none 0 0) := by
  obtain ⟨i0, hi, hz0, hz1, hz2⟩ := info_parts info_rl
  obtain ⟨v', w', hr, h1, h3, h5, h4⟩ := run_append_own_at (P := Try.prog) (w := w) base 23 ty 63 i0 _ 2 32 Try.underlying23 hi hz0 hz1 hz2 rfl (by decide) u ps.length (ps.flatMap encL) hown.own.2 ad k c (qs.flatMap encL) (by rw [flat_len encL_len, hk]) hy (fun x hx => by obtain ⟨y, _, h2⟩ := List.mem_flatMap.1 hx; exact encL_one y x h2) (by unfold maxLen; omega) (by omega) hbase
  refine ⟨v', w', hr, ?_, h3, h4, fun hu e => hu (h5.1 e).1⟩
  have hall : ∀ p ∈ ps ++ qs, RgC w p.2.1 p.2.2 p.1.rs ∧ (p.1.rs ≠ [] → ∀ ad, p.2.1 = some ad → u.ownBlock ≠ some ad.block) := by
    intro p hp
    rcases List.mem_append.1 hp with hp | hp
    · exact ⟨hown.rg p hp, hown.ne p hp⟩
    · exact ⟨hqr p hp, hqn p hp⟩
  refine ⟨⟨encL_len, ?_⟩, fun p hp => (hall p hp).1.grown h3 (hall p hp).2, fun p hp hr ad' had => ?_⟩
  · rw [List.length_append, List.flatMap_append, hk]; exact h1
  · rcases h4 with e | e
    · rw [e]; exact (hall p hp).2 hr ad' had
    · rw [e]
      rcases (hall p hp).1.rgs.cells with h0 | ⟨b, off, ha, hlt, _⟩
      · exact absurd (List.eq_nil_of_length_eq_zero h0) hr
      · rw [had] at ha
        obtain rfl := Option.some.inj ha
        intro e2
        simp at e2
        omega
/-- the same, from any slice -/
theorem ok_appL {o : Oper} {ρ : Operand → Value} {w : World} {R : Value → World → Prop} (s x : Operand)
    (ho : o.op = .call { callee := .builtin .append, args := #[s, x], argTypes := #[23, 23] })
    (base : Nat) (u : Value) (ls ms : List Rl) (row : Option Nat) (hs : ρ s = u) (hown : OwnT w base row ls u) (a : Option Addr) (k c : Nat) (hx : ρ x = .slice a k c) (qs : List PL) (hq : rlsOf qs = ms) (hk : qs.length = k) (hc : a = none → k = 0 ∧ c = 0)
    (hy : ∀ ad, a = some ad → ∀ j x, (qs.flatMap encL)[j]? = some x → w.cell? (ad.add j) = some x)
    (hqr : ∀ p ∈ qs, RgC w p.2.1 p.2.2 p.1.rs) (hqn : ∀ p ∈ qs, p.1.rs ≠ [] → ∀ ad, p.2.1 = some ad → row ≠ some ad.block)
    (hbytes : ls.length + k ≤ 100000) (hbase : base ≤ w.heap.size)
    (h : ∀ v' w' row', OwnT w' base row' (ls ++ ms) v' → w.grownBy w' row → (row' = row ∨ ∃ k, row' = some k ∧ w.heap.size ≤ k) → R v' w') : OpOk Try.prog o ρ w R := by
  obtain ⟨ps, hp, ho1, hrow, hnn⟩ := hown
  subst hrow
  cases a with
  | some ad =>
    obtain ⟨v', w', hr, h1, h2, h3, h4⟩ := run_appL o.type base u ps qs ho1 ad k c hk (hy ad rfl) hqr hqn (by rw [← hp] at hbytes; simpa [rlsOf] using hbytes) hbase
    refine ok_value (v := v') (w' := w') ?_ (h v' w' v'.ownBlock ⟨ps ++ qs, by rw [← hp, ← hq]; simp [rlsOf], h1, rfl, h4 hnn⟩ h2 (h3.imp id fun e => ⟨_, e, Nat.le_refl _⟩))
    unfold execOp
    simp only [ho, resolve, invoke, builtin, Sem.run_bind, Sem.run_pure, Result.andThen_ok, List.map_toArray, List.map_cons, List.map_nil, hs, hx, hr]
  | none =>
    obtain ⟨rfl, rfl⟩ := hc rfl
    obtain rfl : qs = [] := List.eq_nil_of_length_eq_zero hk
    obtain rfl : ms = [] := hq.symm
    obtain ⟨i0, hi, hz0, hz1, hz2⟩ := info_parts info_rl
    have hsrc : Src Try.prog i0.size 23 (.slice none 0 0) 0 [] w := Src.ofNil w Try.underlying23 _
    rcases ho1.own.form with ⟨e, _⟩ | ⟨g, cap, e, _, _, hle, _⟩
    · exact absurd e hnn
    · have hr := run_append_nothing (P := Try.prog) w 23 23 o.type 63 i0 Try.underlying23 hi (some ⟨g, 0, none⟩) ps.length cap hle (.slice none 0 0) hsrc
      refine ok_value (v := u) (w' := w) ?_ (h u w u.ownBlock ⟨ps, by rw [List.append_nil]; exact hp, ho1, rfl, hnn⟩ ⟨rfl, rfl, rfl, Nat.le_refl _, fun _ _ _ => rfl⟩ (.inl rfl))
      rw [← e] at hr
      unfold execOp
      simp only [ho, resolve, invoke, builtin, Sem.run_bind, Sem.run_pure, Result.andThen_ok, List.map_toArray, List.map_cons, List.map_nil, hs, hx, hr]
/-- the cells of a block, as the source of an append -/
theorem row_src {w : World} {g : Nat} {T : TypeId} {l : List Value} (h : Row w g T l.toArray) : ∀ (j : Nat) (x : Value), l[j]? = some x → ∀ ad, some (⟨g, 0, none⟩ : Addr) = some ad → w.cell? (ad.add j) = some x := by
  intro j x hx ad had
  obtain rfl := Option.some.inj had
  have := h.cell j
  rw [List.getElem?_toArray, hx] at this
  unfold Addr.add
  split
  · rename_i h0; rw [h0] at this; exact this
  · simpa using this
/-- a slice of rules in memory, with where their ranges lie -/
structure LsM (w : World) (a : Option Addr) (c : Nat) (ps : List PL) : Prop where
  rls : Rls w a ps.length (rlsOf ps)
  rg : ∀ p ∈ ps, RgC w p.2.1 p.2.2 p.1.rs
  cells : ∀ j u, (ps.flatMap encL)[j]? = some u → ∀ ad, a = some ad → w.cell? (ad.add j) = some u
  cap : ps.length ≤ c
  nil : a = none → ps.length = 0 ∧ c = 0
  blk : ∀ ad, a = some ad → ∃ g, ad = ⟨g, 0, none⟩ ∧ g < w.heap.size
theorem OwnL.lsm {w : World} {base : Nat} {v : Value} {ps : List PL} (h : OwnL w base v ps) (hl : ps.length ≤ 100000) : ∃ a c, v = .slice a ps.length c ∧ LsM w a c ps := by
  obtain ⟨a, c, h1, h2, h3, h4, h5, h6, h7⟩ := h.rls hl
  exact ⟨a, c, h1, h2, h.rg, h7, h3, fun e => ⟨by rw [h5 e]; rfl, h4 e⟩, h6⟩
theorem LsM.below {w w' : World} {a : Option Addr} {c : Nat} {ps : List PL} (h : LsM w a c ps) (hb : Below w.heap.size w w') : LsM w' a c ps := by
  refine ⟨h.rls.below (Nat.le_refl _) hb, fun p hp => (h.rg p hp).below hb, fun j u hu ad had => ?_, h.cap, h.nil, fun ad had => ?_⟩
  · obtain ⟨g, e, hg⟩ := h.blk ad had
    rw [← h.cells j u hu ad had]
    subst e
    have : ∀ q : Addr, q.block = g → w'.cell? q = w.cell? q := fun q hq => by simp only [World.cell?, hq, hb.block g hg]
    exact this _ (by unfold Addr.add; split <;> rfl)
  · obtain ⟨g, e, hg⟩ := h.blk ad had
    exact ⟨g, e, Nat.lt_of_lt_of_le hg hb.size⟩
/-- ranges in memory lie in blocks that are there -/
theorem RgC.old {w : World} {ai : Option Addr} {ci : Nat} {rs : List Rg} (h : RgC w ai ci rs) (hr : rs ≠ []) (ad : Addr) (had : ai = some ad) : ad.block < w.heap.size := by
  rcases h.rgs.cells with h0 | ⟨b, off, ha, hlt, _⟩
  · exact absurd (List.eq_nil_of_length_eq_zero h0) hr
  · rw [had] at ha
    obtain rfl := Option.some.inj ha
    exact hlt
theorem rls_take (ps : List PL) (k : Nat) : rlsOf (ps.take k) = (rlsOf ps).take k := by unfold rlsOf; rw [List.map_take]
theorem rls_drop (ps : List PL) (k : Nat) : rlsOf (ps.drop k) = (rlsOf ps).drop k := by unfold rlsOf; rw [List.map_drop]
theorem LsM.take {w : World} {a : Option Addr} {c : Nat} {ps : List PL} (h : LsM w a c ps) (k : Nat) : ∀ ad, a = some ad → ∀ j x, ((ps.take k).flatMap encL)[j]? = some x → w.cell? (ad.add j) = some x := fun ad had j x hx => by
  refine h.cells j x ?_ ad had
  have e : ps.flatMap encL = (ps.take k).flatMap encL ++ (ps.drop k).flatMap encL := by rw [← List.flatMap_append, List.take_append_drop]
  rw [e, List.getElem?_append_left (List.getElem?_eq_some_iff.1 hx).1]
  exact hx
theorem LsM.drop {w : World} {a : Option Addr} {c : Nat} {ps : List PL} (h : LsM w a c ps) (k : Nat) (hk : k ≤ ps.length) : ∀ ad, (a.map fun ad => ad.add (k * 2)) = some ad → ∀ j x, ((ps.drop k).flatMap encL)[j]? = some x → w.cell? (ad.add j) = some x := fun ad had j x hx => by
  cases a with
  | none => cases had
  | some a =>
    obtain rfl := Option.some.inj had
    have e : ps.flatMap encL = (ps.take k).flatMap encL ++ (ps.drop k).flatMap encL := by rw [← List.flatMap_append, List.take_append_drop]
    have hl : ((ps.take k).flatMap encL).length = k * 2 := by rw [flat_len encL_len, List.length_take]; omega
    have h2 := h.cells (k * 2 + j) x (by rw [e, List.getElem?_append_right (by omega), hl, show k * 2 + j - k * 2 = j by omega]; exact hx) a rfl
    obtain ⟨g, e2, _⟩ := h.blk a rfl
    subst e2
    have e3 : ∀ q, (⟨g, 0, none⟩ : Addr).add q = ⟨g, q, none⟩ := fun q => by
      unfold Addr.add
      split
      · rename_i h0; rw [h0]
      · simp
    rw [e3] at h2
    show w.cell? (((⟨g, 0, none⟩ : Addr).add (k * 2)).add j) = some x
    rw [e3]
    have e4 : (⟨g, k * 2, none⟩ : Addr).add j = ⟨g, k * 2 + j, none⟩ := by
      unfold Addr.add
      split
      · rename_i h0; rw [h0]; rfl
      · rfl
    rw [e4]; exact h2
theorem LsM.dropC {w : World} {a : Option Addr} {c : Nat} {ps : List PL} (h : LsM w a c ps) (k : Nat) (hk : k ≤ ps.length) : ∀ ad, (if c = k then a else Option.map (fun ad => ad.add (k * 2)) a) = some ad → ∀ j x, ((ps.drop k).flatMap encL)[j]? = some x → w.cell? (ad.add j) = some x := fun ad had j x hx => by
  split at had
  · rename_i e
    have := h.cap
    rw [List.drop_eq_nil_of_le (by omega)] at hx
    simp at hx
  · exact h.drop k hk ad had j x hx
/-- two rules in a block, the second one's range in a block of its own -/
theorem keeps_two (B bF : Nat) : Keeps fun w row v => ∃ g g2, v = .slice (some ⟨g, 0, none⟩) 2 2 ∧ Row w g 63 #[.slice (some ⟨bF, 0, none⟩) 1 1, .int .i64 9, .slice (some ⟨g2, 0, none⟩) 1 1, .int .i64 1] ∧ Row w g2 73 (rgP 0 40).arr ∧ row ≠ some g ∧ row ≠ some g2 ∧ B ≤ g2 := by
  rintro w w' row row' v ⟨g, g2, h1, h2, h3, h4, h5, h6⟩ hg hr
  have key : ∀ {k : Nat}, row ≠ some k → k < w.heap.size → row' ≠ some k := fun hk hlt e => by
    rcases hr with e2 | ⟨k2, e2, hk2⟩
    · exact hk (e2 ▸ e)
    · rw [e2] at e
      injection e with e
      omega
  exact ⟨g, g2, h1, (hg.block g h2.lt (fun e => h4 e.symm)).trans h2, (hg.block g2 h3.lt (fun e => h5 e.symm)).trans h3, key h4 h2.lt, key h5 h3.lt, h6⟩
/-- one range in a block -/
theorem rc_row {w : World} {g : Nat} {T : TypeId} {r : Rg} (h : Row w g T r.arr) : RgC w (some ⟨g, 0, none⟩) 1 [r] := by
  refine ⟨⟨rfl, by simp, .inr ⟨g, 0, rfl, h.lt, fun i x hx j hj => ?_⟩⟩, Nat.le_refl _, fun e => by cases e⟩
  match i, hx with
  | 0, hx =>
    obtain rfl := Option.some.inj hx
    have := h.cell j
    rw [show (0 + 0 * 10 + j) = j by omega, this]
    have : j = 0 ∨ j = 1 ∨ j = 2 ∨ j = 3 ∨ j = 4 ∨ j = 5 ∨ j = 6 ∨ j = 7 ∨ j = 8 ∨ j = 9 := by omega
    rcases this with rfl | rfl | rfl | rfl | rfl | rfl | rfl | rfl | rfl | rfl <;> rfl
  | i + 1, hx => simp at hx
end Go.Proofs.Ytikdkhiehfccpaa
