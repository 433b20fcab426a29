/- RrH0, RrA0 in one text. -/
import Derived.Test.YtginbellakkliaaDoorMRrd

/- A play of the program beside one of the reference: what holds of both while cards are played, taken back and played again. -/
namespace Go.Proofs.YtginbellakkliaaDoor
open Go.RowKit Go.Shelf Go.Sort Go.Maps Go.WideMaps

/-- a play in which what was taken back can be played again -/
def Legit (d : Nat → Nat) (n : Nat) (p : Ply) : Prop := ∃ P j, Tied d n P ∧ P.ok ∧ j ≤ P.steps.length ∧ p = P.at j (P.bk j)
variable {d : Nat → Nat} {n : Nat} {p : Ply}
theorem Legit.tied (h : Legit d n p) : Tied d n p := by
  obtain ⟨P, j, h1, -, h2, rfl⟩ := h; exact h1.at h2 _
theorem Tied.len52 (h : Tied d n p) (hd : Deal4 d n) (hp : p.ok) : p.steps.length ≤ 52 := by
  have := (h.ok hd hp).len
  have e : (toR d p).cs.length = p.steps.length := cds_len p
  rwa [e] at this
theorem Legit.len (h : Legit d n p) (hd : Deal4 d n) : p.steps.length ≤ 52 ∧ p.back.length ≤ 52 := by
  obtain ⟨P, j, h1, h0, h2, rfl⟩ := h
  have := h1.len52 hd h0
  constructor
  · rw [at_len P h2]; omega
  · show (P.bk j).length ≤ 52
    unfold Ply.bk
    rw [List.length_map, List.length_reverse, List.length_drop]; omega
theorem Legit.new {lv dn rk dc : Nat} (hd : Deal4 d n) (hw : ∀ i, W64 (d i)) (hok : newE d lv dn rk dc = 0) : Legit d n (newP d lv dn rk dc) :=
  ⟨newP d lv dn rk dc, 0, Tied.new hd hok, newP_ok hw hok, Nat.zero_le _, rfl⟩
theorem Legit.of_full {P : Ply} (h : Tied d n P) (hp : P.ok) (hb : P.back = []) : Legit d n P := by
  refine ⟨P, P.steps.length, h, hp, Nat.le_refl _, ?_⟩
  rw [at_full, bk_full]
  cases P
  simp at hb
  subst hb
  rfl
theorem Legit.do (h : Legit d n p) (hd : Deal4 d n) (hp : p.ok) (c : Nat) : Legit d n (p.doV c).2 := by
  unfold Ply.doV
  split
  · exact h
  · split
    · rename_i h2
      have hl := h.len hd
      have hq : ({ p with back := [] } : Ply).ok := ⟨hp.st, hp.lv, hp.dn, hp.rk, hp.dc, hp.steps, (fun c hc => by cases hc), by have := hp.many; show p.steps.length + 0 ≤ _; omega⟩
      exact Legit.of_full (h.tied.put hd hp h2.2) (Ply.put_ok hq h2.1 (by show p.steps.length + 1 + 0 ≤ _; omega)) rfl
    · exact h
theorem Legit.undo (h : Legit d n p) : Legit d n p.undoV.2 := by
  obtain ⟨P, j, h1, h0, h2, rfl⟩ := h
  cases j with
  | zero => rw [at_undo0]; exact ⟨P, 0, h1, h0, h2, rfl⟩
  | succ j =>
    have hx : P.steps[j]? = some P.steps[j] := List.getElem?_eq_getElem (by omega)
    rw [at_undo P hx]
    exact ⟨P, j, h1, h0, by omega, by rw [bk_succ P hx]⟩
theorem Legit.redo (h : Legit d n p) : Legit d n p.redoV.2 := by
  obtain ⟨P, j, h1, h0, h2, rfl⟩ := h
  by_cases hj : j = P.steps.length
  · have : P.bk j = [] := by rw [hj]; exact bk_full P
    rw [this, at_redo0]
    exact ⟨P, j, h1, h0, h2, by rw [this]⟩
  · have hx : P.steps[j]? = some (P.steps[j]'(by omega)) := List.getElem?_eq_getElem (by omega)
    rw [bk_succ P hx, at_redo h1.hist hx]
    exact ⟨P, j + 1, h1, h0, by omega, rfl⟩
theorem toR_do (h : Tied d n p) (hd : Deal4 d n) (c : Nat) : (toR d p).doV p.back c = ((p.doV c).1, toR d (p.doV c).2, (p.doV c).2.back) := by
  unfold Rp.doV Ply.doV
  rw [h.over hd, h.legal hd]
  split
  · rfl
  · split
    · simp only [toR, Ply.cds, Ply.put, List.map_append, List.map_cons, List.map_nil]
    · rfl
theorem toR_undo (d : Nat → Nat) (p : Ply) : (toR d p).undoV p.back = (p.undoV.1, toR d p.undoV.2, p.undoV.2.back) := by
  unfold Rp.undoV Ply.undoV
  show (match p.cds.getLast? with | none => (6, toR d p, p.back) | some x => (0, { toR d p with cs := p.cds.dropLast }, p.back ++ [x])) = _
  unfold Ply.cds
  rw [List.getLast?_map]
  cases p.steps.getLast? with
  | none => rfl
  | some x => simp only [Option.map_some, toR, Ply.cds, List.map_dropLast]
theorem toR_redo (d : Nat → Nat) (p : Ply) : (toR d p).redoV p.back = (p.redoV.1, toR d p.redoV.2, p.redoV.2.back) := by
  unfold Rp.redoV Ply.redoV
  cases p.back.getLast? with
  | none => rfl
  | some x => simp only [toR, Ply.cds, Ply.put, List.map_append, List.map_cons, List.map_nil]

/-- blocks that a play does not touch: those from before, the reference's box, and the reference's lists -/
abbrev Gx (w : World) (b9 : Nat) (Gs : Nat → Prop) : Nat → Prop := fun g => g < w.heap.size ∨ g = b9 ∨ Gs g
/-- both plays are in memory: p the program's, PA the reference's (in block b9), which is as q -/
structure Half (w W : World) (B b9 : Nat) (d : Nat → Nat) (q p : Ply) (PA : Array Value) (Gs : Nat → Prop) : Prop where
  inp : InP W B p (Gx w b9 Gs)
  ref : RpIn W (toR d q) q.back PA Gs
  row : Row W b9 71 PA
  old : w.heap.size ≤ b9
  notin : ¬ Gs b9
  bel : Below w.heap.size w W
abbrev Two (w W : World) (B b9 : Nat) (d : Nat → Nat) (p : Ply) (PA : Array Value) (Gs : Nat → Prop) : Prop := Half w W B b9 d p p PA Gs
theorem Half.below {w W W' : World} {B b9 : Nat} {q p : Ply} {PA : Array Value} {Gs : Nat → Prop} (h : Half w W B b9 d q p PA Gs) (hb : Below W.heap.size W W') : Half w W' B b9 d q p PA Gs :=
  ⟨h.inp.below hb, h.ref.below hb, h.row.later hb, h.old, h.notin, h.bel.trans (hb.mono h.bel.size)⟩
theorem Half.act {w W W' : World} {B b9 : Nat} {q p p' : Ply} {PA : Array Value} {Gs : Nat → Prop} (h : Half w W B b9 d q p PA Gs) (hin : InP W' B p' (Gx w b9 Gs)) (hk : Kept (Gx w b9 Gs) W W') : Half w W' B b9 d q p' PA Gs :=
  ⟨hin, h.ref.kept (hk.mono fun _ hg => .inr (.inr hg)), h.row.kept (.inr (.inl rfl)) hk, h.old, h.notin,
    ⟨hk.os.trans h.bel.os, hk.tape.trans h.bel.tape, hk.output.trans h.bel.output, Nat.le_trans h.bel.size hk.size, fun k hl => (hk.block k (.inl hl) (Nat.lt_of_lt_of_le hl h.bel.size)).trans (h.bel.block k hl)⟩⟩
theorem setRow_kept (W : World) (b : Nat) (v : Array Value) : Kept (fun k => k ≠ b) W (W.setRow b v) :=
  ⟨rfl, rfl, rfl, Nat.le_of_eq (size_setRow _ _ _).symm, fun k hk _ => by
    show (W.heap.modify b _)[k]? = _
    rw [Array.getElem?_modify, if_neg (fun e => hk e.symm)]⟩
/-- one block more that is left alone -/
theorem Half.add {w W : World} {B b9 : Nat} {q p : Ply} {PA : Array Value} {Gs : Nat → Prop} (h : Half w W B b9 d q p PA Gs) (o : Obj) : Half w (W.alloc o) B b9 d q p PA (fun g => Gs g ∨ g = W.heap.size) := by
  have hb := (Below.refl W.heap.size W).alloc (Nat.le_refl _) o
  have h1 := h.below hb
  refine ⟨h.inp.more hb (fun g hg => ?_) ?_, h1.ref.mono fun g hg => .inl hg, h1.row, h.old, ?_, h1.bel⟩
  · rcases hg with hg | hg | hg | hg
    · exact .inl (.inl hg)
    · exact .inl (.inr (.inl hg))
    · exact .inl (.inr (.inr hg))
    · exact .inr ⟨by omega, by rw [hg]; simp⟩
  · rcases h.inp.tg with hg | hg | hg
    · exact .inl hg
    · exact .inr (.inl hg)
    · exact .inr (.inr (.inl hg))
  · rintro (hg | hg)
    · exact h.notin hg
    · have := h.row.lt; omega
/-- the reference has followed, and its play lies in its box -/
theorem Half.follow {w W W' : World} {B b9 : Nat} {q p : Ply} {PA PA' : Array Value} {Gs : Nat → Prop} (h : Half w W B b9 d q p PA Gs) (hb : Below W.heap.size W W') (hr : RpIn W' (toR d p) p.back PA' (More Gs W W')) : Two w (W'.setRow b9 PA') B b9 d p PA' (More Gs W W') := by
  have hb9 : b9 < W.heap.size := h.row.lt
  have hnot : ¬ More Gs W W' b9 := by rintro (hg | ⟨hg, -⟩); exact h.notin hg; omega
  have h1 := h.below hb
  have hsz : (W'.setRow b9 PA').heap.size = W'.heap.size := size_setRow _ _ _
  have htab : 0 ≠ b9 := by
    rcases Nat.lt_or_ge 0 w.heap.size with hl | hl
    · have := h.old; omega
    · rcases h.inp.tg with hg | hg | hg
      · exact Nat.ne_of_lt (Nat.lt_of_lt_of_le hg h.old)
      · exfalso
        have ht := h.inp.tab 0 (by decide)
        have hrow := h.row
        rw [← hg] at hrow
        have hc := hrow.cell 0
        rw [ht] at hc
        obtain ⟨a, cap, a2, cap2, rfl, -⟩ := h.ref
        simp [Rp.cells] at hc
      · intro e; exact h.notin (e ▸ hg)
  have hin2 : InP W' B p (Gx w b9 (More Gs W W')) := h.inp.more hb (fun g hg => by
    rcases hg with hg | hg | hg | hg
    · exact .inl (.inl hg)
    · exact .inl (.inr (.inl hg))
    · exact .inl (.inr (.inr hg))
    · exact .inr hg) (by rcases h.inp.tg with hg | hg | hg; exact .inl hg; exact .inr (.inl hg); exact .inr (.inr (.inl hg)))
  refine ⟨?_, hr.kept ((setRow_kept W' b9 PA').mono fun g hg e => hnot (e ▸ hg)), setRow_heap _ _ _ _ _ _ h1.row, h.old, hnot, below_setRow h1.bel h.old _⟩
  refine hin2.kept (setRow_kept W' b9 PA') (fun k => ?_) (fun g hg => by rw [hsz]; exact hin2.lt g hg) ?_
  · by_cases e : k = b9
    · exact .inr (.inr (.inl e))
    · exact .inl e
  · exact tab_kept (G := fun k => k ≠ b9) hin2.tab htab (setRow_kept W' b9 PA')
theorem RpIn.size {W : World} {r : Rp} {bk : List Nat} {PA : Array Value} {G : Nat → Prop} (h : RpIn W r bk PA G) : PA.size = 10 ∧ PA.all (·.oneCell') = true := by
  obtain ⟨a, cap, a2, cap2, rfl, -⟩ := h
  exact ⟨rfl, rp_one _ _ _ _ _ _ _⟩
/-- what is known when the reference returns: its play, to be stored in its box -/
def Foll (w : World) (B b9 : Nat) (d : Nat → Nat) (p : Ply) (er : Nat) (e : Ending) (W' : World) : Prop :=
  ∃ PA', e = .returned (.tuple #[.agg PA', .int .i64 (er : Int)]) ∧ PA'.size = 10 ∧ PA'.all (·.oneCell') = true ∧ (∃ PA, PA.size = 10 ∧ Row W' b9 71 PA) ∧ ∃ Gs, Two w (W'.setRow b9 PA') B b9 d p PA' Gs
variable {w W : World} {B b9 : Nat} {PA : Array Value} {Gs : Nat → Prop}
theorem two_do (h : Two w W B b9 d p PA Gs) (hl : Legit d n p) (hd : Deal4 d n) {c : Nat} (hc : c < 256) :
    Calls Tryd.prog 18 #[.pointer (some ⟨B, 0, none⟩), .int .u8 (c : Int)] W fun e W' => e = .returned (.int .i64 ((p.doV c).1 : Int)) ∧ Half w W' B b9 d p (p.doV c).2 PA Gs :=
  (in_do h.inp c hc (doV_ok h.inp.ok c (by have := (hl.len hd).1; omega))).mono fun _ _ ⟨he, hin, hk⟩ => ⟨he, h.act hin hk⟩
theorem two_doK (h : Two w W B b9 d p PA Gs) (hl : Legit d n p) (hd : Deal4 d n) {c : Nat} (hc : c < 256) :
    Calls Tryd.prog 18 #[.pointer (some ⟨B, 0, none⟩), .int .u8 (c : Int)] W fun e W' => e = .returned (.int .i64 ((p.doV c).1 : Int)) ∧ Half w W' B b9 d p (p.doV c).2 PA Gs ∧ Kept Gs W W' :=
  (in_do h.inp c hc (doV_ok h.inp.ok c (by have := (hl.len hd).1; omega))).mono fun _ _ ⟨he, hin, hk⟩ => ⟨he, h.act hin hk, hk.mono fun _ hg => .inr (.inr hg)⟩
theorem half_do {c : Nat} (h : Half w W B b9 d p (p.doV c).2 PA Gs) (hl : Legit d n p) (hd : Deal4 d n) (hp : p.ok) (hc : c < 256) :
    Calls Tryd.prog 56 #[.agg PA, .int .u8 (c : Int)] W (Foll w B b9 d (p.doV c).2 (p.doV c).1) := by
  refine (rq_Do (toR d p) (hl.tied.ok hd hp) p.back PA Gs W h.ref c hc).mono ?_
  rintro e W' ⟨PA', rfl, hr, hb⟩
  rw [toR_do hl.tied hd] at hr ⊢
  have h1 := h.below hb
  exact ⟨PA', rfl, hr.size.1, hr.size.2, ⟨PA, h.ref.size.1, h1.row⟩, _, h.follow hb hr⟩
theorem two_undo (h : Two w W B b9 d p PA Gs) :
    Calls Tryd.prog 25 #[.pointer (some ⟨B, 0, none⟩)] W fun e W' => e = .returned (.int .i64 (p.undoV.1 : Int)) ∧ Half w W' B b9 d p p.undoV.2 PA Gs :=
  (in_undo h.inp (undoV_ok h.inp.ok)).mono fun _ _ ⟨he, hin, hk⟩ => ⟨he, h.act hin hk⟩
theorem half_undo (h : Half w W B b9 d p p.undoV.2 PA Gs) (hl : Legit d n p) (hd : Deal4 d n) (hp : p.ok) :
    Calls Tryd.prog 53 #[.agg PA] W (Foll w B b9 d p.undoV.2 p.undoV.1) := by
  refine (rq_Undo (toR d p) (hl.tied.ok hd hp) p.back PA Gs W h.ref (by have := (hl.len hd).2; omega)).mono ?_
  rintro e W' ⟨PA', rfl, hr, hb⟩
  rw [toR_undo] at hr ⊢
  have h1 := h.below hb
  exact ⟨PA', rfl, hr.size.1, hr.size.2, ⟨PA, h.ref.size.1, h1.row⟩, _, h.follow hb hr⟩
theorem two_redo (h : Two w W B b9 d p PA Gs) :
    Calls Tryd.prog 26 #[.pointer (some ⟨B, 0, none⟩)] W fun e W' => e = .returned (.int .i64 (p.redoV.1 : Int)) ∧ Half w W' B b9 d p p.redoV.2 PA Gs :=
  (in_redo h.inp).mono fun _ _ ⟨he, hin, hk⟩ => ⟨he, h.act hin hk⟩
theorem half_redo (h : Half w W B b9 d p p.redoV.2 PA Gs) (hl : Legit d n p) (hd : Deal4 d n) (hp : p.ok) :
    Calls Tryd.prog 54 #[.agg PA] W (Foll w B b9 d p.redoV.2 p.redoV.1) := by
  refine (rq_Redo (toR d p) (hl.tied.ok hd hp) p.back PA Gs W h.ref (by have := (hl.len hd).2; omega)).mono ?_
  rintro e W' ⟨PA', rfl, hr, hb⟩
  rw [toR_redo] at hr ⊢
  have h1 := h.below hb
  exact ⟨PA', rfl, hr.size.1, hr.size.2, ⟨PA, h.ref.size.1, h1.row⟩, _, h.follow hb hr⟩
theorem two_legal (h : Two w W B b9 d p PA Gs) (hl : Legit d n p) (hd : Deal4 d n) :
    Calls Tryd.prog 55 #[.agg PA] W fun e W' => e = .returned (.int .u64 (p.st.legal : Int)) ∧ Below W.heap.size W W' := by
  obtain ⟨a, cap, a2, cap2, rfl, hz, hcap, -⟩ := h.ref
  rw [← hl.tied.legal hd]
  exact rq_Legal (toR d p) (hl.tied.ok hd h.inp.ok) a cap _ W hz hcap
end Go.Proofs.YtginbellakkliaaDoor

/- ActsP of finesselaw12 that came in, in memory. -/
namespace Go.Proofs.YtginbellakkliaaDoor
open Go.RowKit Go.Shelf Go.Sort

structure AcP where
  kind : Nat
  card : Nat
abbrev AcP.cells (a : AcP) : Array Value := #[.int .u8 (a.kind : Int), .int .u8 (a.card : Int)]
structure AcP.ok (a : AcP) : Prop where
  kind : a.kind < 256
  card : a.card < 256
/-- acts that came in -/
structure ActsP (w : World) (a : Option Addr) (len : Nat) (l : List AcP) : Prop where
  length : l.length = len
  small : len ≤ 562949953421312
  ok : ∀ (i : Nat) x, l[i]? = some x → x.ok
  cells : len = 0 ∨ ∃ b off, a = some ⟨b, off, none⟩ ∧ b < w.heap.size ∧ ∀ (i : Nat) x, l[i]? = some x → ∀ j, j < 2 → w.cell? ⟨b, off + i * 2 + j, none⟩ = x.cells[j]?
theorem ActsP.kept {S : Nat → Prop} {w w' : World} {a : Option Addr} {len : Nat} {l : List AcP} (h : ActsP w a len l) (hs : ∀ b, b < w.heap.size → (∃ ad, a = some ad ∧ ad.block = b) → S b) (hk : Kept S w w') : ActsP w' a len l := by
  refine ⟨h.length, h.small, h.ok, ?_⟩
  rcases h.cells with h0 | ⟨b, off, rfl, hb, hc⟩
  · exact .inl h0
  · exact .inr ⟨b, off, rfl, Nat.lt_of_lt_of_le hb hk.size, fun i x hx j hj => (hk.cell (p := ⟨b, off + i * 2 + j, none⟩) (hs b hb ⟨_, rfl, rfl⟩) hb).trans (hc i x hx j hj)⟩
theorem ActsP.below {w w' : World} {a : Option Addr} {len : Nat} {l : List AcP} (h : ActsP w a len l) (hb : Below w.heap.size w w') : ActsP w' a len l :=
  h.kept (S := fun _ => True) (fun _ _ _ => trivial) (Kept.of_below hb)
end Go.Proofs.YtginbellakkliaaDoor
