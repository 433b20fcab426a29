/- Slices of ranges appended; contracts for what is right; Both, plain. -/
import Derived.Test.YtikdkhiehfccpaaAgW
import Derived.Deep.Upon
namespace Go.Proofs.Ytikdkhiehfccpaa
open Go.RowKit Go.Sort Go.Shelf Cnt

theorem wpList_append_nothing {P : Program} {w : World} {ops : Array Oper} {rest : List Oper} {o : Oper} {a : Act} {Q : Exit → Act → World → Prop} (hgd : o.guard = none) (s x : Operand) (t : TypeId)
    (ho : o.op = .call { callee := .builtin .append, args := #[s, x], argTypes := #[t, t] }) (e : TypeId) (i : TypeInfo) (ht : P.underlying t = some (.slice e)) (hi : P.info? e = some i) (base : Option Addr) (len cap : Nat) (hle : len ≤ cap) (hs : a.eval s = .slice base len cap)
    (y : Value) (hx : a.eval x = y) (hsrc : Src P i.size t y 0 [] w) (h : wpList P ops Q rest (a.put o.dst (.slice base len cap)) w) : wpList P ops Q (o :: rest) a w := by
  refine wpList_plain hgd fun K hK => ?_
  have hr := run_append_nothing w t t o.type e i ht hi base len cap hle y hsrc
  unfold Oper.wp execOp
  simp only [ho, resolve, invoke, builtin, Sem.run_bind, Sem.run_pure, Result.andThen_ok, List.map_toArray, List.map_cons, List.map_nil, hs, hx, hr]
  exact hK _ _ h
theorem OwnR.rgs' {w : World} {base : Nat} {v : Value} {rs : List Rg} (h : OwnR w base v rs) (hs : rs.length ≤ 100000) : ∃ a m cap, v = .slice a m cap ∧ Rgs w a m rs ∧ m ≤ cap ∧ (a = none → cap = 0) := by
  obtain ⟨a, cap, h1, h2, h3, h4⟩ := h.rgs hs
  exact ⟨a, rs.length, cap, h1, h2, h3, h4⟩
/-- append(v, src...), v the call's own, src any slice of ranges -/
theorem appRn {w : World} {ops : Array Oper} {rest : List Oper} {o : Oper} {a : Act} {Q : Exit → Act → World → Prop} (hgd : o.guard = none) (s x : Operand)
    (ho : o.op = .call { callee := .builtin .append, args := #[s, x], argTypes := #[27, 27] })
    (base : Nat) (v : Value) (zs ys : List Rg) (hs : a.eval s = v) (hown : OwnR w base v zs) (ad : Option Addr) (m c : Nat) (hx : a.eval x = .slice ad m c) (hy : Rgs w ad m ys) (hc : ad = none → c = 0)
    (hbytes : zs.length + m ≤ 100000) (hbase : base ≤ w.heap.size)
    (h : ∀ v' w', OwnR w' base v' (zs ++ ys) → Below base w w' → w.grownBy w' v.ownBlock → (v'.ownBlock = v.ownBlock ∨ v'.ownBlock = some w.heap.size) → wpList Try.prog ops Q rest (a.put o.dst v') w') : wpList Try.prog ops Q (o :: rest) a w := by
  cases ad with
  | some ad => exact appR hgd s x ho base v zs ys hs hown ad m c hx hy hbytes hbase h
  | none =>
    have hm : m = 0 := by
      rcases hy.cells with h | ⟨_, _, h, _⟩
      · exact h
      · cases h
    subst hm
    obtain rfl : ys = [] := List.eq_nil_of_length_eq_zero hy.length
    obtain rfl : c = 0 := hc rfl
    obtain ⟨i0, hi, hz0, hz1, hz2⟩ := info_parts info_rg
    obtain ⟨av, cv, rfl, -, hle, -⟩ := hown.rgs (by omega)
    refine wpList_append_nothing hgd s x 27 ho 73 i0 Try.underlying27 hi av zs.length cv hle hs _ hx (Src.ofNil w Try.underlying27 0) ?_
    exact h _ w (by rw [List.append_nil]; exact hown) (Below.refl _ _) ⟨rfl, rfl, rfl, Nat.le_refl _, fun _ _ _ => rfl⟩ (.inl rfl)
theorem OwnR.made0 (w : World) (base : Nat) (h : base ≤ w.heap.size) : OwnR (w.alloc (.cells #[] 73)) base (.slice (some ⟨w.heap.size, 0, none⟩) 0 0) [] :=
  World.ownsRow_made w #[] 0 h (by unfold maxLen; omega) rfl
theorem ag_GivenOk (left : Nat) (n : Int) (hl : left < 4503599627370496) (h0 : 0 ≤ n) (h13 : n ≤ 13) (a b : Option Addr) (la ca lb cb : Nat) (ra rb : List Rg) (hra : rightV ra = true) (hrb : rightV rb = true) (w : World) (ha : Rgs w a la ra) (hb : Rgs w b lb rb) :
    Calls Try.prog 55 #[.int .u64 (left : Int), .int .i64 n, .slice a la ca, .slice b lb cb] w fun e w' =>
      e = .returned (.tuple #[.int .i64 ((cntF (deck left) n.toNat (fitP ra) : Nat) : Int), .int .i64 ((cntF (deck left) n.toNat (fun l p => fitP ra l p && fitP rb l p) : Nat) : Int), .int .i64 0]) ∧ Below w.heap.size w w' := by
  have h := ag_GivenV left n a b la ca lb cb ra rb w ha hb
  have e : givenV left n ra rb = (cntF (deck left) n.toNat (fitP ra), cntF (deck left) n.toNat (fun l p => fitP ra l p && fitP rb l p), 0) := by
    unfold givenV
    rw [if_pos]
    rw [hra, hrb]
    simp [legalB, h0, h13, hl]
  rw [e] at h
  exact h
/-- plain: one of two, and both -/
theorem cntF_or (ds : List Ft) (nn : Nat) (p q : (Nat → Nat) → Nat → Bool) : cntF ds nn (fun l x => p l x || q l x) + cntF ds nn (fun l x => p l x && q l x) = cntF ds nn p + cntF ds nn q := by
  unfold cntF
  rw [← sumF_add, ← sumF_add]
  refine sumF_congr fun x => ?_
  by_cases hs : x.size = nn
  · rw [if_pos hs, if_pos hs, if_pos hs, if_pos hs]
    cases h1 : p (lenF x) x.p <;> cases h2 : q (lenF x) x.p <;> simp [h1, h2]
  · rw [if_neg hs, if_neg hs, if_neg hs, if_neg hs]
theorem fitP_append (a b : List Rg) : fitP (a ++ b) = fun l p => fitP a l p || fitP b l p := by
  funext l p
  simp [fitP]
theorem wthn_join (n x y x' y' : Int) : wthn n (mx x x') (mn y y') = (wthn n x y && wthn n x' y') := by
  unfold wthn mx mn
  rw [Bool.eq_iff_iff]
  simp only [Bool.and_eq_true, decide_eq_true_eq]
  split <;> split <;> omega
theorem long_and (r q : Rg) (l : Nat → Nat) : (r.join q).long l = (r.long l && q.long l) := by
  have e0 : wthn (l 0) ((r.join q).lo 0) ((r.join q).hi 0) = (wthn (l 0) (r.lo 0) (r.hi 0) && wthn (l 0) (q.lo 0) (q.hi 0)) := wthn_join _ _ _ _ _
  have e1 : wthn (l 1) ((r.join q).lo 1) ((r.join q).hi 1) = (wthn (l 1) (r.lo 1) (r.hi 1) && wthn (l 1) (q.lo 1) (q.hi 1)) := wthn_join _ _ _ _ _
  have e2 : wthn (l 2) ((r.join q).lo 2) ((r.join q).hi 2) = (wthn (l 2) (r.lo 2) (r.hi 2) && wthn (l 2) (q.lo 2) (q.hi 2)) := wthn_join _ _ _ _ _
  have e3 : wthn (l 3) ((r.join q).lo 3) ((r.join q).hi 3) = (wthn (l 3) (r.lo 3) (r.hi 3) && wthn (l 3) (q.lo 3) (q.hi 3)) := wthn_join _ _ _ _ _
  simp only [Rg.long, Rg.longTo, e0, e1, e2, e3, Bool.true_and]
  ac_rfl
/-- a hand that fits one of the ranges -/
def Rg.fit (r : Rg) (l : Nat → Nat) (p : Nat) : Bool := r.long l && wthn p r.p0 r.p1
theorem fit_join (r q : Rg) (l : Nat → Nat) (p : Nat) : (r.join q).fit l p = (r.fit l p && q.fit l p) := by
  unfold Rg.fit
  rw [long_and, show wthn (p : Int) (r.join q).p0 (r.join q).p1 = (wthn p r.p0 r.p1 && wthn p q.p0 q.p1) from wthn_join _ _ _ _ _]
  ac_rfl
theorem ord_le {x y g : Int} (h : ordB x y g = true) : 0 ≤ x ∧ x ≤ y ∧ y ≤ g := by
  simp only [ordB, Bool.and_eq_true, decide_eq_true_eq] at h
  exact ⟨h.1.1, h.1.2, h.2⟩
theorem ord_join {x y x' y' g : Int} (h : ordB x y g = true) (k : ordB x' y' g = true) {n : Int} (hn : wthn n (mx x x') (mn y y') = true) : ordB (mx x x') (mn y y') g = true := by
  obtain ⟨h1, h2, h3⟩ := ord_le h
  obtain ⟨k1, k2, k3⟩ := ord_le k
  simp only [wthn, Bool.and_eq_true, decide_eq_true_eq] at hn
  simp only [ordB, Bool.and_eq_true, decide_eq_true_eq]
  unfold mx mn at *
  split <;> split <;> simp_all <;> omega
theorem ok_of_fit {r q : Rg} (hr : r.ok = true) (hq : q.ok = true) {l : Nat → Nat} {p : Nat} (h : (r.join q).fit l p = true) : (r.join q).ok = true := by
  simp only [Rg.fit, Rg.long, Rg.longTo, Bool.and_eq_true] at h
  simp only [Rg.ok, Rg.okTo, Bool.and_eq_true] at hr hq ⊢
  obtain ⟨⟨⟨⟨⟨_, h0⟩, h1⟩, h2⟩, h3⟩, hp⟩ := h
  obtain ⟨⟨⟨⟨⟨_, r0⟩, r1⟩, r2⟩, r3⟩, rp⟩ := hr
  obtain ⟨⟨⟨⟨⟨_, q0⟩, q1⟩, q2⟩, q3⟩, qp⟩ := hq
  exact ⟨⟨⟨⟨⟨trivial, ord_join r0 q0 h0⟩, ord_join r1 q1 h1⟩, ord_join r2 q2 h2⟩, ord_join r3 q3 h3⟩, ord_join rp qp hp⟩
theorem fitP_both {a b : List Rg} (ha : a.all Rg.ok = true) (hb : b.all Rg.ok = true) : fitP (bothL a b) = fun l p => fitP a l p && fitP b l p := by
  funext l p
  rw [Bool.eq_iff_iff]
  have e : ∀ rs : List Rg, fitP rs l p = true ↔ ∃ r ∈ rs, r.fit l p = true := by intro rs; unfold fitP Rg.fit; rw [List.any_eq_true]
  rw [Bool.and_eq_true, e, e, e]
  rw [List.all_eq_true] at ha hb
  constructor
  · rintro ⟨x, hx, hf⟩
    unfold bothL bothR at hx
    obtain ⟨r, hr, hx⟩ := List.mem_flatMap.1 hx
    obtain ⟨hx, _⟩ := List.mem_filter.1 hx
    obtain ⟨q, hq, rfl⟩ := List.mem_map.1 hx
    rw [fit_join, Bool.and_eq_true] at hf
    exact ⟨⟨r, hr, hf.1⟩, ⟨q, hq, hf.2⟩⟩
  · rintro ⟨⟨r, hr, h1⟩, ⟨q, hq, h2⟩⟩
    have hf : (r.join q).fit l p = true := by rw [fit_join, h1, h2]; rfl
    refine ⟨r.join q, ?_, hf⟩
    unfold bothL bothR
    refine List.mem_flatMap.2 ⟨r, hr, List.mem_filter.2 ⟨List.mem_map.2 ⟨q, hq, rfl⟩, ok_of_fit (ha r hr) (hb q hq) hf⟩⟩
theorem right_and (rs : List Rg) (h : rightV rs = true) : rs.length ≤ 20 ∧ rs.all Rg.ok = true := by
  simpa [rightV] using h
theorem bothL_ok (a b : List Rg) : (bothL a b).all Rg.ok = true := by
  rw [List.all_eq_true]
  intro x hx
  unfold bothL bothR at hx
  obtain ⟨r, hr, hx⟩ := List.mem_flatMap.1 hx
  exact (List.mem_filter.1 hx).2
theorem made_len (cs : List Cd) : (made cs).length ≤ 4 := by simp [made]; omega
theorem right_of {rs : List Rg} (h : rs.length ≤ 20) (k : rs.all Rg.ok = true) : rightV rs = true := by simp [rightV, h]; simpa using k
end Go.Proofs.Ytikdkhiehfccpaa
