/- Plain: a table turned; two plays in one memory. -/
import Derived.Test.YtginbellakkliaaDoorPyV
namespace Go.Proofs.YtginbellakkliaaDoor
open Go.RowKit Go.Shelf Go.Sort

theorem dealOk4 {d : Nat → Nat} {n : Nat} (h : Deal4 d n) : dealOk d = true := by
  refine dealOk_yes fun i hi => ?_
  have hw : ∀ j, W64 (d j) := fun j => Nat.lt_of_lt_of_le (h.lt j) (by decide)
  have hl : ∀ j, j < 4 → (downL (d j)).length = n := fun j hj => downL_pop _ _ (hw j) (h.pop j hj)
  have h2 : land (allTo d i) (d i) = 0 := by
    refine land_zero fun c hq => ?_
    obtain ⟨j, hj, hc⟩ := allTo_bit _ i c hq
    exact h.apart j i c (by omega) hc
  unfold handOk
  rw [hl i hi, h2, decide_eq_true (h.lt i), decide_eq_true h.pos, decide_eq_true h.le]
  by_cases h0 : i = 0
  · subst h0; rfl
  · have : numTo d i = n := by unfold numTo; rw [if_neg h0, hl (i - 1) (by omega)]
    rw [this]; simp
theorem newE4 {d : Nat → Nat} {n lv dn rk dc : Nat} (h : Deal4 d n) (h1 : 1 ≤ lv) (h2 : lv ≤ 7) (h3 : dn ≤ 4) (h4 : rk ≤ 2) (h5 : dc ≤ 3) : newE d lv dn rk dc = 0 := by
  have hl : (leadV lv dn rk dc).2 = 0 := by
    unfold leadV
    rw [if_neg (by omega), if_pos ⟨h2, h3, h4, h5⟩]
  unfold newE
  rw [if_pos hl, if_pos (dealOk4 h)]
theorem PInv.new4 {d : Nat → Nat} {n lv dn rk dc : Nat} (h : Deal4 d n) (hok : newE d lv dn rk dc = 0) : PInv d n (newP d lv dn rk dc) 0 := by
  refine ⟨newP_ok (fun j => Nat.lt_of_lt_of_le (h.lt j) (by decide)) hok, fun j c h => h, fun j hj => ?_, rfl, (fun y hy => by cases hy), (fun i hi => by cases hi), List.nodup_nil, fun j c h => .inl h, (fun y hy => by cases hy), h.far⟩
  unfold newP
  simp only [Nat.not_lt_zero, if_false, Nat.add_zero]
  exact h.pop j hj
/-- the complete tricks behind one more card -/
theorem tkTo_app (p : Ply) (s : Stp) (st : PSt) : ∀ k, 4 * k ≤ p.steps.length → ({ p with st := st, steps := p.steps ++ [s] } : Ply).tkTo k = p.tkTo k
  | 0, _ => rfl
  | k + 1, h => by
    unfold Ply.tkTo
    rw [tkTo_app p s st k (by omega)]
    congr 1
    show (match (p.steps ++ [s])[4 * k + 3]? with | none => [] | some x => [x.tk p.dn]) = _
    rw [List.getElem?_append_left (by omega)]
    cases p.steps[4 * k + 3]? <;> rfl
theorem tks_back (p : Ply) (l : List Nat) : ({ p with back := l } : Ply).tks = p.tks := by
  have : ∀ k, ({ p with back := l } : Ply).tkTo k = p.tkTo k := by
    intro k
    induction k with
    | zero => rfl
    | succ k ih => unfold Ply.tkTo; rw [ih]
  exact this _
theorem new_tks (d : Nat → Nat) (lv dn rk dc : Nat) : (newP d lv dn rk dc).tks = [] := by simp [Ply.tks, newP, Ply.tkTo]
theorem put_tks (p : Ply) (c : Nat) (t : Nat) (hl : p.steps.length = 4 * t + p.st.ct) (hct : p.st.ct < 4) : (p.put c).tks = p.tks ++ (if p.st.ct = 3 then [Stp.tk ⟨p.st, c⟩ p.dn] else []) := by
  unfold Ply.tks
  have h1 : (p.put c).steps.length = p.steps.length + 1 := by unfold Ply.put; rw [List.length_append]; rfl
  have h2 : p.steps.length / 4 = t := by omega
  rw [h1, h2]
  by_cases h3 : p.st.ct = 3
  · rw [if_pos h3, show (p.steps.length + 1) / 4 = t + 1 by omega]
    show (Ply.put p c).tkTo t ++ _ = _
    have := tkTo_app p ⟨p.st, c⟩ (p.st.put p.dn c) t (by omega)
    unfold Ply.put
    rw [this]
    congr 1
    show (match (p.steps ++ [⟨p.st, c⟩])[4 * t + 3]? with | none => [] | some x => [x.tk p.dn]) = _
    rw [List.getElem?_append_right (by omega), show 4 * t + 3 - p.steps.length = 0 by omega]
    rfl
  · rw [if_neg h3, List.append_nil, show (p.steps.length + 1) / 4 = t by omega]
    exact tkTo_app p ⟨p.st, c⟩ (p.st.put p.dn c) t (by omega)
theorem tkWon_app (l : List Tk) (x : Tk) (s : Nat) : tkWon (l ++ [x]) s = tkWon l s + if x.win % 2 = s then 1 else 0 := by
  unfold tkWon
  rw [List.filter_append, List.length_append]
  congr 1
  by_cases h : x.win % 2 = s <;> simp [h]
theorem seatV_right {dn ld : Nat} {zs : List Nat} (hdn : dn ≤ 4) (hld : ld ≤ 3) (hr : rightB zs = true) : seatV dn ld zs = ((ld + (winnerV dn zs).1) % 4, 0) := by
  have hw : (winnerV dn zs).2 = 0 := by unfold winnerV; rw [if_neg (by omega), if_pos hr]
  unfold seatV
  rw [if_neg (by omega), if_pos hw]
theorem PInv.full_right {d : Nat → Nat} {n t : Nat} {p : Ply} (h : PInv d n p t) (hd : Deal4 d n) {c : Nat} (hc : p.st.legal.testBit c = true) (h3 : p.st.ct = 3) : rightB [p.st.cs 0, p.st.cs 1, p.st.cs 2, c] = true := by
  have ht : p.st.trick = [p.st.cs 0, p.st.cs 1, p.st.cs 2] := by unfold PSt.trick; rw [h3]; rfl
  have hh := h.legal_sub hd hc
  have h52 := h.legal_52 hd hc
  have hnd := h.nd
  have hno := h.trickNo p.st.next
  have hlt := h.trick52
  rw [ht] at hnd hno hlt
  refine (y_rightB_iff _).2 ⟨by simp, by simp, ?_, ?_⟩
  · intro x hx
    simp only [List.mem_cons, List.not_mem_nil, or_false] at hx
    rcases hx with rfl | rfl | rfl | rfl
    · exact hlt _ (by simp)
    · exact hlt _ (by simp)
    · exact hlt _ (by simp)
    · exact h52
  · have : [p.st.cs 0, p.st.cs 1, p.st.cs 2, c] = [p.st.cs 0, p.st.cs 1, p.st.cs 2] ++ [c] := rfl
    rw [this]
    refine List.nodup_append.2 ⟨hnd, by simp, fun a ha b hb => ?_⟩
    rw [List.mem_singleton.1 hb]
    rintro rfl
    rw [hno _ ha] at hh; cases hh
/-- q is p with the table turned by b -/
structure Trn (b : Nat) (p q : Ply) : Prop where
  h : ∀ j, j < 4 → q.st.h ((j + b) % 4) = p.st.h j
  ld : q.st.ld = (p.st.ld + b) % 4
  ct : q.st.ct = p.st.ct
  cs : q.st.cs = p.st.cs
  dn : q.dn = p.dn
  dc : q.dc = (p.dc + b) % 4
  won : ∀ s, s < 2 → tkWon q.tks ((s + b) % 2) = tkWon p.tks s
theorem Trn.next {b : Nat} {p q : Ply} (h : Trn b p q) : q.st.next = (p.st.next + b) % 4 := by
  unfold PSt.next; rw [h.ld, h.ct]; omega
theorem Trn.hnext {b : Nat} {p q : Ply} (h : Trn b p q) : q.st.h q.st.next = p.st.h p.st.next := by
  rw [h.next]; exact h.h _ (next_lt _)
theorem Trn.trick {b : Nat} {p q : Ply} (h : Trn b p q) : q.st.trick = p.st.trick := by
  unfold PSt.trick; rw [h.ct, h.cs]
theorem Trn.over {b : Nat} (hb : b < 4) {p q : Ply} (h : Trn b p q) : q.st.over = p.st.over := by
  rw [Bool.eq_iff_iff, over_iff, over_iff]
  constructor
  · intro ho j hj; rw [← h.h j hj]; exact ho _ (Nat.mod_lt _ (by decide))
  · intro ho j hj
    have := h.h ((j + 4 - b) % 4) (Nat.mod_lt _ (by decide))
    rw [show ((j + 4 - b) % 4 + b) % 4 = j by omega] at this
    rw [this]; exact ho _ (Nat.mod_lt _ (by decide))
theorem Trn.legal {b : Nat} (hb : b < 4) {p q : Ply} (h : Trn b p q) : q.st.legal = p.st.legal := by
  unfold PSt.legal; rw [h.over hb, h.hnext, h.trick]
theorem Trn.put {b n t : Nat} {d : Nat → Nat} {p q : Ply} (h : Trn b p q) (_hb : b < 4) (hd : Deal4 d n) (hp : PInv d n p t) (hq : q.ok) (hql : q.steps.length = 4 * t + q.st.ct) {c : Nat} (hc : p.st.legal.testBit c = true) :
    Trn b (({ p with back := [] } : Ply).put c) (({ q with back := [] } : Ply).put c) := by
  have hh : ∀ j, j < 4 → (q.st.put q.dn c).h ((j + b) % 4) = (p.st.put p.dn c).h j := by
    intro j hj
    have e1 : ∀ (s : PSt) dn, (s.put dn c).h = setH s.h s.next (landn (s.h s.next) (shl1 c)) := by intro s dn; unfold PSt.put; split <;> rfl
    rw [e1, e1, h.hnext]
    unfold setH
    have hn := h.next
    have hn4 := next_lt p.st
    by_cases hj2 : j = p.st.next
    · rw [if_pos hj2, if_pos (by rw [hn, hj2])]
    · rw [if_neg hj2, if_neg (by rw [hn]; omega)]; exact h.h j hj
  have hwin : p.st.ct = 3 → (seatV q.dn q.st.ld [q.st.cs 0, q.st.cs 1, q.st.cs 2, c]).1 = ((seatV p.dn p.st.ld [p.st.cs 0, p.st.cs 1, p.st.cs 2, c]).1 + b) % 4 := by
    intro h3
    have hr := hp.full_right hd hc h3
    have hld := hp.ok.st.ld
    rw [h.dn, h.ld, h.cs, seatV_right hp.ok.dn (by omega) hr, seatV_right hp.ok.dn (by omega) hr]
    show ((p.st.ld + b) % 4 + _) % 4 = ((p.st.ld + _) % 4 + b) % 4
    omega
  refine ⟨hh, ?_, ?_, ?_, h.dn, h.dc, ?_⟩
  · show (q.st.put q.dn c).ld = ((p.st.put p.dn c).ld + b) % 4
    unfold PSt.put
    rw [h.ct]
    by_cases h3 : p.st.ct = 3
    · rw [if_pos h3, if_pos h3]; exact hwin h3
    · rw [if_neg h3, if_neg h3]; exact h.ld
  · show (q.st.put q.dn c).ct = (p.st.put p.dn c).ct
    unfold PSt.put
    rw [h.ct]
    split <;> rfl
  · show (q.st.put q.dn c).cs = (p.st.put p.dn c).cs
    unfold PSt.put
    rw [h.ct]
    split
    · rfl
    · show setH q.st.cs p.st.ct c = _; rw [h.cs]
  · intro s hs
    have hp2 := put_tks ({ p with back := [] } : Ply) c t hp.many (by have := hp.ok.st.ct; exact this)
    have hq2 := put_tks ({ q with back := [] } : Ply) c t hql (by have := hq.st.ct; exact this)
    rw [hp2, hq2, tks_back q [], tks_back p []]
    show tkWon (q.tks ++ if q.st.ct = 3 then [Stp.tk ⟨q.st, c⟩ q.dn] else []) _ = tkWon (p.tks ++ if p.st.ct = 3 then [Stp.tk ⟨p.st, c⟩ p.dn] else []) s
    rw [h.ct]
    by_cases h3 : p.st.ct = 3
    · rw [if_pos h3, if_pos h3, tkWon_app, tkWon_app, h.won s hs]
      have e := hwin h3
      have e1 : (Stp.tk ⟨q.st, c⟩ q.dn).win = ((Stp.tk ⟨p.st, c⟩ p.dn).win + b) % 4 := e
      rw [e1]
      congr 1
      by_cases hh2 : (Stp.tk ⟨p.st, c⟩ p.dn).win % 2 = s
      · rw [if_pos hh2, if_pos (by omega)]
      · rw [if_neg hh2, if_neg (by omega)]
    · rw [if_neg h3, if_neg h3, List.append_nil, List.append_nil]; exact h.won s hs
theorem Trn.new {d f : Nat → Nat} {lv dn rk dc b : Nat} (h : ∀ j, j < 4 → f ((j + b) % 4) = d j) : Trn b (newP d lv dn rk dc) (newP f lv dn rk ((dc + b) % 4)) :=
  ⟨h, by show ((dc + b) % 4 + 1) % 4 = ((dc + 1) % 4 + b) % 4; omega, rfl, rfl, rfl, rfl, fun s _ => by rw [new_tks, new_tks]; rfl⟩
theorem turned_deal {d f : Nat → Nat} {n b : Nat} (hd : Deal4 d n) (hb : b < 4) (h : ∀ j, j < 4 → f ((j + b) % 4) = d j) (hf : ∀ j, 4 ≤ j → f j = 0) : Deal4 f n := by
  have e : ∀ j, j < 4 → f j = d ((j + 4 - b) % 4) := fun j hj => by
    have := h ((j + 4 - b) % 4) (Nat.mod_lt _ (by decide))
    rwa [show ((j + 4 - b) % 4 + b) % 4 = j by omega] at this
  refine ⟨fun j => ?_, fun j j' c hjj hc => ?_, fun j hj => ?_, hd.pos, hd.le, hf⟩
  · by_cases hj : j < 4
    · rw [e j hj]; exact hd.lt _
    · rw [hf j (by omega)]; decide
  · by_cases hj : j < 4
    · by_cases hj' : j' < 4
      · rw [e j hj] at hc; rw [e j' hj']
        exact hd.apart _ _ c (by omega) hc
      · rw [hf j' (by omega)]; exact Nat.zero_testBit _
    · rw [hf j (by omega)] at hc; simp at hc
  · rw [e j hj]; exact hd.pop _ (Nat.mod_lt _ (by decide))
/-- another's blocks may change -/
theorem InP.other {W W' : World} {B : Nat} {p : Ply} {G S : Nat → Prop} (h : InP W B p G) (hk : Kept S W W') (hS : ∀ b, b < W.heap.size → S b ∨ G b) (ht : S 0) :
    InP W' B p (fun b => G b ∨ (W.heap.size ≤ b ∧ b < W'.heap.size)) := by
  obtain ⟨vs, vb, h1, h2, h3⟩ := h.mem
  have hBl := h.at
  have hSB : S B := (hS B hBl).resolve_right h.nb
  have hv : ∀ {α : Type} {enc : α → List Value} {m : Nat} {T : TypeId} {v : Value} {l : List α}, Owns enc m T W 0 v l → ∀ g, v.ownBlock = some g → g < W.heap.size := by
    intro α enc m T v l ho g e
    rcases ho.2.2 with ⟨rfl, _⟩ | ⟨g', cap, cur, rfl, _, h2, _⟩
    · simp [Value.ownBlock] at e
    · obtain rfl : g' = g := by simpa [Value.ownBlock] using e
      exact (Array.getElem?_eq_some_iff.1 h2).1
  have h4 : ∀ {α : Type} {enc : α → List Value} {m : Nat} {T : TypeId} {v : Value} {l : List α}, Owns enc m T W 0 v l → (∀ g, v.ownBlock = some g → ¬ G g) → Owns enc m T W' 0 v l := by
    intro α enc m T v l ho hn
    refine ⟨ho.1, ho.2.1, ?_⟩
    rcases ho.2.2 with ⟨rfl, q⟩ | ⟨g', cap, cur, rfl, q1, q2, q3⟩
    · exact .inl ⟨rfl, q⟩
    · have hl := (Array.getElem?_eq_some_iff.1 q2).1
      refine .inr ⟨g', cap, cur, rfl, q1, ?_, q3⟩
      rw [hk.block g' ((hS g' hl).resolve_right (hn g' (by simp [Value.ownBlock]))) hl]
      exact q2
  refine ⟨h.ok, ⟨vs, vb, ⟨h1.row.kept hSB hk, h4 h1.ss h2, h4 h1.bs h3, h1.ns, h1.nb, h1.sb⟩, fun g e hg => ?_, fun g e hg => ?_⟩, fun hg => ?_, fun g hg => ?_, tab_kept h.tab ht hk, .inl h.tg⟩
  · rcases hg with hg | hg
    · exact h2 g e hg
    · have := hv h1.ss g e; omega
  · rcases hg with hg | hg
    · exact h3 g e hg
    · have := hv h1.bs g e; omega
  · rcases hg with hg | hg
    · exact h.nb hg
    · omega
  · rcases hg with hg | hg
    · exact Nat.lt_of_lt_of_le (h.lt g hg) hk.size
    · exact hg.2
/-- two plays lie in memory, and G is foreign to both -/
def In2 (W : World) (B1 : Nat) (p : Ply) (B2 : Nat) (q : Ply) (G : Nat → Prop) : Prop :=
  ∃ G1 G2, InP W B1 p G1 ∧ InP W B2 q G2 ∧ (∀ b, b < W.heap.size → G1 b ∨ G2 b) ∧ ∀ b, G b → G1 b ∧ G2 b
theorem In2.swap {W : World} {B1 B2 : Nat} {p q : Ply} {G : Nat → Prop} (h : In2 W B1 p B2 q G) : In2 W B2 q B1 p G := by
  obtain ⟨G1, G2, h1, h2, h3, h4⟩ := h
  exact ⟨G2, G1, h2, h1, fun b hb => (h3 b hb).symm, fun b hb => (h4 b hb).symm⟩
theorem In2.fst {W : World} {B1 B2 : Nat} {p q : Ply} {G : Nat → Prop} (h : In2 W B1 p B2 q G) : ∃ G1, InP W B1 p G1 := by
  obtain ⟨G1, _, h1, _⟩ := h; exact ⟨G1, h1⟩
theorem In2.below {W W' : World} {B1 B2 : Nat} {p q : Ply} {G : Nat → Prop} (h : In2 W B1 p B2 q G) (hb : Below W.heap.size W W') : In2 W' B1 p B2 q G := by
  obtain ⟨G1, G2, h1, h2, h3, h4⟩ := h
  refine ⟨fun b => G1 b ∨ (W.heap.size ≤ b ∧ b < W'.heap.size), G2, h1.more hb (fun g hg => hg) (.inl h1.tg), h2.below hb, fun b hl => ?_, fun b hg => ⟨.inl (h4 b hg).1, (h4 b hg).2⟩⟩
  by_cases hq : b < W.heap.size
  · rcases h3 b hq with h5 | h5
    · exact .inl (.inl h5)
    · exact .inr h5
  · exact .inl (.inr ⟨by omega, hl⟩)
theorem In2.do {W : World} {B1 B2 : Nat} {p q : Ply} {G : Nat → Prop} (h : In2 W B1 p B2 q G) (c : Nat) (hc : c < 256) (hq : (p.doV c).2.ok) :
    Calls Tryd.prog 18 #[.pointer (some ⟨B1, 0, none⟩), .int .u8 (c : Int)] W fun e W' => e = .returned (.int .i64 ((p.doV c).1 : Int)) ∧ In2 W' B1 (p.doV c).2 B2 q G ∧ Kept G W W' := by
  obtain ⟨G1, G2, h1, h2, h3, h4⟩ := h
  refine (in_do h1 c hc hq).mono fun e W' ⟨he, hi, hk⟩ => ⟨he, ⟨G1, _, hi, h2.other hk h3 h1.tg, fun b hb => ?_, fun b hg => ⟨(h4 b hg).1, .inl (h4 b hg).2⟩⟩, hk.mono fun b hg => (h4 b hg).1⟩
  by_cases hq : b < W.heap.size
  · rcases h3 b hq with h5 | h5
    · exact .inl h5
    · exact .inr (.inl h5)
  · exact .inr (.inr ⟨by omega, hb⟩)
theorem In2.new {W W' : World} {B1 B2 : Nat} {p q : Ply} {G : Nat → Prop} (h1 : InP W B1 p G) (h2 : InP W' B2 q (fun b => b < W.heap.size)) (hb : Below W.heap.size W W') : In2 W' B1 p B2 q G := by
  refine ⟨fun b => G b ∨ (W.heap.size ≤ b ∧ b < W'.heap.size), _, h1.more hb (fun g hg => hg) (.inl h1.tg), h2, fun b hl => ?_, fun b hg => ⟨.inl hg, h1.lt b hg⟩⟩
  by_cases hq : b < W.heap.size
  · exact .inr hq
  · exact .inl (.inr ⟨by omega, hl⟩)
end Go.Proofs.YtginbellakkliaaDoor
