/- The region of finesselaw11.TrickWrong that makes three lists: what is said of each operation. -/
import Derived.Test.YthilcnhnfdddhaaDoorRelyG
import Derived.Test.YthilcnhnfdddhaaDoorClone
namespace Go.Proofs.YthilcnhnfdddhaaDoor
open Go.RowKit Go.Shelf Go.Sort

/-- what is said of a value: which one it is; that it is a new slice of one byte; that it is a slice of the call's own, till another operation takes it over -/
inductive SpecG where
  | eq (v : Value)
  | one (c : Nat)
  | own (zs : List Nat) (next : Nat)
  | three
/-- v is a slice over a block of its own that holds one byte -/
def OneB (w : World) (c : Nat) (v : Value) : Prop := ∃ g, v = .slice (some ⟨g, 0, none⟩) 1 1 ∧ w.heap[g]? = some (.cells #[.int .u8 (c : Int)] 5 (0, 0))
def SpecG.holds (B : Nat) : SpecG → Done → Value → World → Prop
  | .eq x, _, v, _ => v = x
  | .one c, _, v, w => OneB w c v
  | .own zs n, f, v, w => f n = none → OwnB w B v zs ∧ v ≠ .slice none 0 0
  | .three, f, v, w => ∀ x y z, f 9 = some x → f 15 = some y → f 21 = some z → ∃ g, v = .slice (some ⟨g, 0, none⟩) 3 3 ∧ w.heap[g]? = some (.cells #[x, y, z] 23 (0, 0))
/-- the blocks of two operations' slices are not one -/
def ApartB (f : Done) (i j : Nat) : Prop := ∀ x y, f i = some x → f j = some y → x.ownBlock ≠ y.ownBlock
structure FG (w0 : World) (l : List SpecG) (f : Done) (w : World) : Prop where
  below : Below w0.heap.size w0 w
  each : ∀ j s v, l[j]? = some s → f j = some v → s.holds w0.heap.size f v w
  apart : ApartB f 9 12 ∧ ApartB f 9 17 ∧ ApartB f 15 17
  far : f 1000 = none

theorem OneB.below {w w' : World} {c : Nat} {v : Value} (h : OneB w c v) (hb : Below w.heap.size w w') : OneB w' c v := by
  obtain ⟨g, h1, h2⟩ := h
  exact ⟨g, h1, (hb.block g (Array.getElem?_eq_some_iff.1 h2).1).trans h2⟩
theorem OneB.byt {w : World} {c : Nat} {v : Value} (h : OneB w c v) (hc : c < 256) : ∃ g, v = .slice (some ⟨g, 0, none⟩) 1 1 ∧ Byt w (some ⟨g, 0, none⟩) 1 [c] := by
  obtain ⟨g, h1, h2⟩ := h
  refine ⟨g, h1, rfl, by simp, (by intro i; rcases i with _ | _ <;> simp; exact hc), .inr ⟨g, 0, rfl, (Array.getElem?_eq_some_iff.1 h2).1, fun i hi => ?_⟩⟩
  obtain rfl : i = 0 := by omega
  simp [World.cell?, h2]
theorem holds_below {B : Nat} {s : SpecG} {f g : Done} {v : Value} {w w' : World} (h : s.holds B f v w) (hb : Below w.heap.size w w') (hfg : ∀ n, g n = none → f n = none) (h9 : g 9 = f 9) (h15 : g 15 = f 15) (h21 : g 21 = f 21) : s.holds B g v w' := by
  cases s with
  | eq x => exact h
  | one c => exact OneB.below h hb
  | own zs n => exact fun hn => ⟨(h (hfg n hn)).1.below hb, (h (hfg n hn)).2⟩
  | three =>
    intro x y z hx hy hz
    rw [h9] at hx; rw [h15] at hy; rw [h21] at hz
    obtain ⟨g, h1, h2⟩ := h x y z hx hy hz
    exact ⟨g, h1, (hb.block g (Array.getElem?_eq_some_iff.1 h2).1).trans h2⟩
theorem Done.set_same (f : Done) (i : Nat) (v : Value) : f.set i v i = some v := by unfold Done.set; rw [if_pos rfl]
theorem Done.set_other (f : Done) {i j : Nat} (v : Value) (h : j ≠ i) : f.set i v j = f j := by unfold Done.set; rw [if_neg h]
theorem Done.set_none {f : Done} {i : Nat} {v : Value} (n : Nat) (h : f.set i v n = none) : f n = none := by
  unfold Done.set at h
  split at h
  · cases h
  · exact h
theorem apart_other {f : Done} {i a b : Nat} {v : Value} (h : ApartB f a b) (ha : a ≠ i) (hb : b ≠ i) : ApartB (f.set i v) a b := by
  intro x y hx hy
  rw [Done.set_other f v ha] at hx
  rw [Done.set_other f v hb] at hy
  exact h x y hx hy
/-- an operation that turns nothing that was there -/
theorem FG.step {w0 : World} {l : List SpecG} {f : Done} {w w' : World} (h : FG w0 l f w) (i : Nat) (s : SpecG) (v : Value) (hs : l[i]? = some s) (hb : Below w.heap.size w w') (hv : s.holds w0.heap.size (f.set i v) v w')
    (hi : i ≠ 9 ∧ i ≠ 12 ∧ i ≠ 15 ∧ i ≠ 17 ∧ i ≠ 21 ∧ i ≠ 1000) : FG w0 l (f.set i v) w' := by
  refine ⟨h.below.trans (hb.mono h.below.size), fun j sj x hj hx => ?_, ⟨apart_other h.apart.1 (by omega) (by omega), apart_other h.apart.2.1 (by omega) (by omega), apart_other h.apart.2.2 (by omega) (by omega)⟩, (Done.set_other f v (by omega)).trans h.far⟩
  by_cases hji : j = i
  · subst hji
    rw [hs] at hj; injection hj with hj; subst hj
    rw [Done.set_same] at hx; injection hx with hx; subst hx
    exact hv
  · rw [Done.set_other f v hji] at hx
    exact holds_below (h.each j sj x hj hx) hb Done.set_none (Done.set_other f v (by omega)) (Done.set_other f v (by omega)) (Done.set_other f v (by omega))
theorem own_lt_size {w : World} {B : Nat} {v : Value} {zs : List Nat} (h : OwnB w B v zs) (k : Nat) (hk : v.ownBlock = some k) : k < w.heap.size := (World.ownsRow.lt h k hk).2
theorem own_some {w : World} {B : Nat} {v : Value} {zs : List Nat} (h : OwnB w B v zs) (hn : v ≠ .slice none 0 0) : ∃ k, v.ownBlock = some k := by
  obtain ⟨h1, ⟨rfl, h2⟩ | ⟨g, cap, cur, rfl, hg, hh, hc, hm, hcs, ht⟩⟩ := h
  · exact absurd rfl hn
  · exact ⟨g, rfl⟩
/-- a block of more than one byte is none of the blocks of one -/
theorem own_not_one {w : World} {B : Nat} {v x : Value} {zs : List Nat} {c : Nat} (h : OwnB w B v zs) (h2 : 2 ≤ zs.length) (hx : OneB w c x) : x.ownBlock ≠ v.ownBlock := by
  obtain ⟨g, rfl, hg⟩ := hx
  obtain ⟨h1, ⟨rfl, h3⟩ | ⟨g', cap, cur, rfl, hg', hh, hc, hm, hcs, ht⟩⟩ := h
  · omega
  · intro e
    simp only [Value.ownBlock, Option.some.injEq] at e
    subst e
    rw [hg] at hh
    injection hh with hh
    injection hh with hh
    subst hh
    simp at hcs
    omega
/-- an operation that makes a new slice of the call's own -/
theorem FG.clone {w0 : World} {l : List SpecG} {f : Done} {w w' : World} (h : FG w0 l f w) (i : Nat) (zs : List Nat) (n : Nat) (v : Value) (hs : l[i]? = some (.own zs n)) (hb : Below w.heap.size w w') (hv : OwnB w' w.heap.size v zs) (hnn : v ≠ .slice none 0 0)
    (hi : i ≠ 9 ∧ i ≠ 15 ∧ i ≠ 21 ∧ i ≠ 1000) (h9 : i ≠ 2 → ∃ zs' n', l[9]? = some (.own zs' n') ∧ f n' = none) (h15 : i = 17 → ∃ zs' n', l[15]? = some (.own zs' n') ∧ f n' = none) : FG w0 l (f.set i v) w' := by
  have hsz : w0.heap.size ≤ w.heap.size := h.below.size
  have hown : OwnB w' w0.heap.size v zs := hv.mono hsz
  have hge : ∀ k, v.ownBlock = some k → w.heap.size ≤ k := fun k hk => hv.own_lt k hk
  obtain ⟨kv, hkv⟩ := own_some hown hnn
  have hnew : ∀ j x, f j = some x → (∃ zs' n', l[j]? = some (.own zs' n') ∧ f n' = none) → x.ownBlock ≠ v.ownBlock := by
    rintro j x hx ⟨zs', n', hl, hn⟩ e
    obtain ⟨ho, hxn⟩ := h.each j _ x hl hx hn
    have := own_lt_size ho kv (by rw [e]; exact hkv)
    have := hge kv hkv
    omega
  refine ⟨h.below.trans (hb.mono hsz), fun j sj x hj hx => ?_, ⟨fun x y hx hy => ?_, fun x y hx hy => ?_, fun x y hx hy => ?_⟩, (Done.set_other f v (by omega)).trans h.far⟩
  · by_cases hji : j = i
    · subst hji
      rw [hs] at hj; injection hj with hj; subst hj
      rw [Done.set_same] at hx; injection hx with hx; subst hx
      exact fun _ => ⟨hown, hnn⟩
    · rw [Done.set_other f v hji] at hx
      exact holds_below (h.each j sj x hj hx) hb Done.set_none (Done.set_other f v (by omega)) (Done.set_other f v (by omega)) (Done.set_other f v (by omega))
  · rw [Done.set_other f v (by omega)] at hx
    by_cases hi12 : i = 12
    · subst hi12
      rw [Done.set_same] at hy; injection hy with hy; subst hy
      exact hnew 9 x hx (h9 (by omega))
    · rw [Done.set_other f v (fun e => hi12 e.symm)] at hy
      exact h.apart.1 x y hx hy
  · rw [Done.set_other f v (by omega)] at hx
    by_cases hi17 : i = 17
    · subst hi17
      rw [Done.set_same] at hy; injection hy with hy; subst hy
      exact hnew 9 x hx (h9 (by omega))
    · rw [Done.set_other f v (fun e => hi17 e.symm)] at hy
      exact h.apart.2.1 x y hx hy
  · rw [Done.set_other f v (by omega)] at hx
    by_cases hi17 : i = 17
    · subst hi17
      rw [Done.set_same] at hy; injection hy with hy; subst hy
      exact hnew 15 x hx (h15 rfl)
    · rw [Done.set_other f v (fun e => hi17 e.symm)] at hy
      exact h.apart.2.2 x y hx hy
/-- append to the slice of operation p -/
theorem FG.append {w0 : World} {l : List SpecG} {f : Done} {w w' : World} (h : FG w0 l f w) (i p : Nat) (zs ys : List Nat) (n : Nat) (u v : Value) (hs : l[i]? = some (.own (zs ++ ys) n)) (hp : l[p]? = some (.own zs i)) (hu : f p = some u) (hfi : f i = none) (h22 : ∀ s, l[22]? = some s → f 22 = none) (hth : ∀ j, l[j]? = some .three → j = 22)
    (hg : w.grownBy w' u.ownBlock) (hv : OwnB w' w0.heap.size v (zs ++ ys)) (hnn : v ≠ .slice none 0 0) (h2 : 2 ≤ zs.length)
    (hother : ∀ j zs' n' x, j ≠ p → l[j]? = some (.own zs' n') → f j = some x → f n' = none → x.ownBlock ≠ u.ownBlock)
    (hap : i = 9 ∨ i = 15 ∨ i = 21) (hlate : (f 12 = none ∧ f 17 = none) ∨ (i ≠ 9 ∧ f 17 = none) ∨ i = 21) : FG w0 l (f.set i v) w' := by
  obtain ⟨hou, hun⟩ := h.each p _ u hp hu hfi
  obtain ⟨ku, hku⟩ := own_some hou hun
  have hsz : w0.heap.size ≤ w.heap.size := h.below.size
  refine ⟨h.below.grown hg hsz (fun k hk => hou.own_lt k hk), fun j sj x hj hx => ?_, ⟨fun x y hx hy => ?_, fun x y hx hy => ?_, fun x y hx hy => ?_⟩, (Done.set_other f v (by omega)).trans h.far⟩
  · by_cases hji : j = i
    · subst hji
      rw [hs] at hj; injection hj with hj; subst hj
      rw [Done.set_same] at hx; injection hx with hx; subst hx
      exact fun _ => ⟨hv, hnn⟩
    · rw [Done.set_other f v hji] at hx
      have hold := h.each j sj x hj hx
      cases sj with
      | eq z => exact hold
      | one c =>
        obtain ⟨g, rfl, hgb⟩ := hold
        have hne := own_not_one hou h2 ⟨g, rfl, hgb⟩
        refine ⟨g, rfl, (hg.block g (Array.getElem?_eq_some_iff.1 hgb).1 ?_).trans hgb⟩
        simpa [Value.ownBlock] using hne
      | own zs' n' =>
        intro hn'
        by_cases hjp : j = p
        · subst hjp
          rw [hp] at hj; injection hj with hj; injection hj with h3 h4
          subst h4
          rw [Done.set_same] at hn'; cases hn'
        · have hn := Done.set_none n' hn'
          obtain ⟨ho, hxn⟩ := hold hn
          refine ⟨World.ownsRow.kept ho hg (.inr (hother j zs' n' x hjp hj hx hn)), hxn⟩
      | three =>
        obtain rfl := hth j hj
        rw [h22 _ hj] at hx; cases hx
  · rcases hlate with ⟨h12, _⟩ | ⟨h9, _⟩ | h21
    · rw [Done.set_other f v (by omega)] at hy; rw [h12] at hy; cases hy
    · rw [Done.set_other f v (by omega)] at hx
      rw [Done.set_other f v (by omega)] at hy
      exact h.apart.1 x y hx hy
    · rw [Done.set_other f v (by omega)] at hx
      rw [Done.set_other f v (by omega)] at hy
      exact h.apart.1 x y hx hy
  · rcases hlate with ⟨_, h17⟩ | ⟨_, h17⟩ | h21
    · rw [Done.set_other f v (by omega)] at hy; rw [h17] at hy; cases hy
    · rw [Done.set_other f v (by omega)] at hy; rw [h17] at hy; cases hy
    · rw [Done.set_other f v (by omega)] at hx
      rw [Done.set_other f v (by omega)] at hy
      exact h.apart.2.1 x y hx hy
  · rcases hlate with ⟨_, h17⟩ | ⟨_, h17⟩ | h21
    · rw [Done.set_other f v (by omega)] at hy; rw [h17] at hy; cases hy
    · rw [Done.set_other f v (by omega)] at hy; rw [h17] at hy; cases hy
    · rw [Done.set_other f v (by omega)] at hx
      rw [Done.set_other f v (by omega)] at hy
      exact h.apart.2.2 x y hx hy
/-- append, as an operation of such a region -/
theorem ok_append {o : Oper} {ρ : Operand → Value} {w : World} {R : Value → World → Prop} (s x : Operand)
    (ho : o.op = .call { callee := .builtin .append, args := #[s, x], argTypes := #[23, 23] })
    (base : Nat) (u : Value) (zs ys : List Nat) (hs : ρ s = u) (hown : OwnB w base u zs) (ad : Addr) (m c : Nat) (hx : ρ x = .slice (some ad) m c) (hy : Byt w (some ad) m ys)
    (hbytes : zs.length + m ≤ 140737488355328) (hbase : base ≤ w.heap.size) (hm : 0 < m)
    (h : ∀ v' w', OwnB w' base v' (zs ++ ys) → w.grownBy w' u.ownBlock → v' ≠ .slice none 0 0 → R v' w') : OpOk Tryd.prog o ρ w R := by
  obtain ⟨i0, hi, hz0, hz1, hz2⟩ := info_parts info_u8
  have hl := hy.length
  obtain ⟨v', w', hr, h2, h3, h4⟩ := run_append_own (P := Tryd.prog) w base 23 o.type 5 i0 (.int .u8 0) 1 1 Tryd.underlying23 hi hz0 hz1 hz2 rfl (by decide) u zs.length (u8s zs) hown ad m c (u8s ys) (by rw [u8s_length, hl]; omega) (byt_cells hy ad rfl) (u8s_one ys) (by unfold maxLen; omega) (by omega) hbase
  refine ok_value (v := v') (w' := w') ?_ (h v' w' ?_ h3 (fun e => by have := (h4.1 e).2; omega))
  · unfold execOp
    simp only [ho, resolve, invoke, builtin, Sem.run_bind, Sem.run_pure, Result.andThen_ok, List.map_toArray, List.map_cons, List.map_nil, hs, hx, hr]
  · unfold OwnB
    rw [List.length_append, u8s_append, hl]
    exact h2
end Go.Proofs.YthilcnhnfdddhaaDoor
