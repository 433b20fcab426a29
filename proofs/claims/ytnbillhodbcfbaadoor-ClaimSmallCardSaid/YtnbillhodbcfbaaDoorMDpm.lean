/- DmBy, DmPm, DmRa in one text. -/
import Derived.Test.YtnbillhodbcfbaaDoorProg
import Derived.Test.YtnbillhodbcfbaaDoorMLow
import Derived.Test.YtnbillhodbcfbaaDoorMDmu
import Derived.Laws.AppendOwnNone
import Derived.ArgAppend
import Derived.Test.YtnbillhodbcfbaaDoorDmPj
import Derived.Test.YtnbillhodbcfbaaDoorMDpe

/- Slices of bytes that the call owns. -/
namespace Go.Proofs.YtnbillhodbcfbaaDoor
open Go.RowKit Go.Shelf Go.Sort

abbrev encU (z : Nat) : List Value := [.int .u8 (z : Int)]
theorem encU_len (z : Nat) : (encU z).length = 1 := rfl
/-- a slice that owns bytes -/
abbrev OwnU (w : World) (base : Nat) (v : Value) (zs : List Nat) : Prop := Owns encU 1 5 w base v zs
theorem flatU (zs : List Nat) (i : Nat) (h : i < zs.length) : (zs.flatMap encU)[i]? = some (.int .u8 ((zs.getD i 0 : Nat) : Int)) := by
  have := flat_at (enc := encU) encU_len zs i 0 (by omega) (x := zs.getD i 0) (by rw [List.getD_eq_getElem?_getD, List.getElem?_eq_getElem h]; rfl)
  simpa using this
theorem OwnU.byt {w : World} {base : Nat} {v : Value} {zs : List Nat} (h : OwnU w base v zs) (hs : zs.length ≤ 140737488351232) (hb : ∀ i, zs.getD i 0 < 256) :
    ∃ a cap, v = .slice a zs.length cap ∧ (a = none → cap = 0) ∧ zs.length ≤ cap ∧ cap ≤ maxLen ∧ (∀ ad, a = some ad → base ≤ ad.block ∧ ad.block < w.heap.size) ∧ Byt w a zs.length zs := by
  have hf := h.form
  rcases hf with ⟨rfl, rfl⟩ | ⟨g, cap, rfl, h1, h2, h3, h4⟩
  · exact ⟨none, 0, rfl, fun _ => rfl, by simp, by simp, (fun _ h => by cases h), rfl, hs, hb, .inl rfl⟩
  · refine ⟨some ⟨g, 0, none⟩, cap, rfl, (fun h => by cases h), h3, h4, (fun ad h => by cases h; exact ⟨h1, h2⟩), rfl, hs, hb, .inr ⟨g, 0, rfl, h2, fun i hi => ?_⟩⟩
    have := h.cell i 0 (by omega) (x := zs.getD i 0) (by rw [List.getD_eq_getElem?_getD, List.getElem?_eq_getElem hi]; rfl)
    simpa using this

theorem info_u8' : (Tryd.prog.info? 5).map (fun i => (i.zero, i.size, i.bytes)) = some (some (.int .u8 0), 1, 1) := by kernel_rfl

theorem flatU_eq (zs : List Nat) : zs.flatMap encU = zs.map fun z : Nat => Value.int .u8 (z : Int) := by
  induction zs with
  | nil => rfl
  | cons z l ih => simp [List.flatMap_cons, ih]
theorem byt_row {w : World} {a : Option Addr} {len : Nat} {zs : List Nat} (h : Byt w a len zs) (ad : Addr) (ha : a = some ad) (j : Nat) (u : Value) (hu : (zs.flatMap encU)[j]? = some u) : w.cell? (ad.add j) = some u := by
  rw [flatU_eq] at hu
  have hj : j < zs.length := by
    have := (List.getElem?_eq_some_iff.1 hu).1; rwa [List.length_map] at this
  obtain ⟨b, off, ha', hb, hc⟩ := h.at (by have := h.length; omega)
  rw [ha] at ha'
  injection ha' with ha'
  subst ha'
  have e : u = .int .u8 ((zs.getD j 0 : Nat) : Int) := by
    rw [List.getElem?_map, List.getElem?_eq_getElem hj] at hu
    rw [List.getD_eq_getElem?_getD, List.getElem?_eq_getElem hj]
    simpa using hu.symm
  rw [e, ← hc j (by have := h.length; omega)]
  by_cases h0 : j = 0
  · subst h0; simp [Addr.add]
  · simp [Addr.add, h0]
theorem flatU_len (zs : List Nat) : (zs.flatMap encU).length = zs.length := by rw [flatU_eq, List.length_map]
theorem flatU_one (zs : List Nat) : ∀ u ∈ zs.flatMap encU, u.oneCell' = true := by
  intro u hu
  rw [flatU_eq] at hu
  obtain ⟨z, _, rfl⟩ := List.mem_map.1 hu
  rfl
/-- append(v, src...), v the call's own -/
theorem appU {w : World} {ops : Array Oper} {rest : List Oper} {o : Oper} {a : Act} {Q : Exit → Act → World → Prop} (hgd : o.guard = none) (s x : Operand)
    (ho : o.op = .call { callee := .builtin .append, args := #[s, x], argTypes := #[25, 25] })
    (base : Nat) (v : Value) (zs ys : List Nat) (hs : a.eval s = v) (hown : OwnU w base v zs) (ad : Addr) (m c : Nat) (hx : a.eval x = .slice (some ad) m c) (hy : Byt w (some ad) m ys)
    (hbytes : zs.length + m ≤ 140737488355328) (hbase : base ≤ w.heap.size)
    (h : ∀ v' w', OwnU w' base v' (zs ++ ys) → Below base w w' → w.grownBy w' v.ownBlock → (v'.ownBlock = v.ownBlock ∨ v'.ownBlock = some w.heap.size) → wpList Tryd.prog ops Q rest (a.put o.dst v') w') : wpList Tryd.prog ops Q (o :: rest) a w := by
  obtain ⟨i0, hi, hz0, hz1, hz2⟩ := info_parts info_u8'
  have hl := hy.length
  refine wpList_append_own_at _ hgd s x 25 ho base 5 i0 (.int .u8 0) 1 1 Tryd.underlying25 hi hz0 hz1 hz2 rfl (by decide) v zs.length (zs.flatMap encU) hs hown.2 ad m c (ys.flatMap encU) hx (by rw [flatU_len, hl]; omega) (byt_row hy ad rfl) (flatU_one ys) (by unfold maxLen; omega) (by omega) hbase ?_
  intro v' w' h1 h2 _ h3
  refine h v' w' ⟨encU_len, ?_⟩ ((Below.refl _ _).grown h2 hbase (fun k hk => (World.ownsRow.lt hown.2 k hk).1)) h2 h3
  rw [List.length_append, List.flatMap_append, hl]
  exact h1
theorem ownU_made0 (w : World) (base : Nat) (h : base ≤ w.heap.size) : OwnU (w.alloc (.cells #[] 5)) base (.slice (some ⟨w.heap.size, 0, none⟩) 0 0) [] :=
  ⟨encU_len, World.ownsRow_made w #[] 0 h (by unfold maxLen; omega) rfl⟩
/-- one byte in a new block -/
theorem byt_new1 (w : World) (c : Nat) (hc : c < 256) : Byt (w.alloc (.cells #[.int .u8 (c : Int)] 5)) (some ⟨w.heap.size, 0, none⟩) 1 [c] :=
  ⟨rfl, by simp, by intro i; rcases i with _ | _ <;> simp; exact hc, .inr ⟨w.heap.size, 0, rfl, by simp, fun i hi => by
    obtain rfl : i = 0 := by simp at hi; exact hi
    simp only [World.cell?, World.alloc_heap_new]
    simp⟩⟩
theorem ownU_at {w : World} {base g n cap : Nat} {l : List Nat} (h : OwnU w base (.slice (some ⟨g, 0, none⟩) n cap) l) {k : Nat} (hk : k < l.length) : w.cell? ⟨g, k, none⟩ = some (.int .u8 ((l.getD k 0 : Nat) : Int)) ∧ w.frozen? ⟨g, k, none⟩ = false := by
  have h1 := Owns.cell h k 0 (by omega) (List.getElem?_eq_getElem hk)
  rw [Nat.mul_one, Nat.add_zero] at h1
  refine ⟨?_, Owns.frozen h k⟩
  rw [h1, List.getD_eq_getElem?_getD, List.getElem?_eq_getElem hk]; rfl
theorem ownU_put {w : World} {base g n cap : Nat} {l : List Nat} (h : OwnU w base (.slice (some ⟨g, 0, none⟩) n cap) l) {k : Nat} (hk : k < l.length) (z : Nat) : OwnU (w.setCell ⟨g, k, none⟩ (.int .u8 (z : Int))) base (.slice (some ⟨g, 0, none⟩) n cap) (l.set k z) := by
  have h1 := (Owns.stored h k 0 (by omega) (x := l[k]) (y := z) (u := .int .u8 (z : Int)) (List.getElem?_eq_getElem hk) rfl).1
  rwa [Nat.mul_one, Nat.add_zero] at h1
end Go.Proofs.YtnbillhodbcfbaaDoor

/- Plain: a line of best play; the rest of a slice of choices. -/
namespace Go.Proofs.YtnbillhodbcfbaaDoor
open Go.RowKit Go.Sort Go.Shelf Go.Maps Go.WideMaps

/-- the first of some choices that is best for side s -/
def pickC (s : Nat) (b : Nat × Nat) (l : List (Nat × Nat)) : Nat × Nat := l.foldl (fun b c => if betterI s b.2 c.2 = b.2 then b else c) b
theorem pickC_snoc (s : Nat) (b : Nat × Nat) (l : List (Nat × Nat)) (c : Nat × Nat) : pickC s b (l ++ [c]) = if betterI s (pickC s b l).2 c.2 = (pickC s b l).2 then pickC s b l else c := by
  unfold pickC; rw [List.foldl_append]; rfl
/-- the choices at a table with m + 1 cards left -/
def Tb.chs (tr m : Nat) (t : Tb) : List (Nat × Nat) := t.cards.map fun c => (c, worth tr m t c)
/-- the card that best play puts -/
def Tb.best (tr m : Nat) (t : Tb) : Nat := (pickC (t.turn % 2) ((t.chs tr m).headD (0, 0)) (t.chs tr m).tail).1
/-- a line of best play of m more cards -/
def lineV (tr : Nat) : Nat → Tb → List Nat
  | 0, _ => []
  | m + 1, t => t.best tr m :: lineV tr m (t.put tr (t.best tr m)).1
theorem pickC_mem (s : Nat) : ∀ (l : List (Nat × Nat)) (b : Nat × Nat), pickC s b l = b ∨ pickC s b l ∈ l
  | [], b => .inl rfl
  | c :: l, b => by
    have e : pickC s b (c :: l) = pickC s (if betterI s b.2 c.2 = b.2 then b else c) l := rfl
    rw [e]
    rcases pickC_mem s l (if betterI s b.2 c.2 = b.2 then b else c) with h | h
    · rw [h]
      split
      · exact .inl rfl
      · exact .inr (List.mem_cons_self ..)
    · exact .inr (List.mem_cons_of_mem _ h)
theorem best_mem {tr m : Nat} {t : Tb} (h : t.cards ≠ []) : t.best tr m ∈ t.cards := by
  unfold Tb.best
  have hne : t.chs tr m ≠ [] := by unfold Tb.chs; simpa using h
  have hm : pickC (t.turn % 2) ((t.chs tr m).headD (0, 0)) (t.chs tr m).tail ∈ t.chs tr m := by
    rcases hc : t.chs tr m with _ | ⟨x, l⟩
    · exact absurd hc hne
    · rcases pickC_mem (t.turn % 2) l x with h | h
      · show pickC _ x l ∈ _
        rw [h]; exact List.mem_cons_self ..
      · exact List.mem_cons_of_mem _ h
  unfold Tb.chs at hm
  obtain ⟨c, hc, e⟩ := List.mem_map.1 hm
  have e1 := congrArg Prod.fst e
  dsimp only at e1
  rw [e1] at hc
  exact hc
theorem lineV_len (tr : Nat) : ∀ m t, (lineV tr m t).length = m
  | 0, _ => rfl
  | m + 1, t => by unfold lineV; rw [List.length_cons, lineV_len tr m]
theorem cards_some {t : Tb} (h : TbOk t) {q : Nat} (he : Evn q t) (hq : 0 < q) : t.cards ≠ [] := by
  intro e
  have h1 := few_some h he hq
  unfold Tb.few at h1
  rw [e] at h1
  exact h1 rfl
/-- l[1:] -/
theorem rest_run (g L cap : Nat) (hL : 1 ≤ L) (hc : L ≤ cap) : ∃ ra, (2 ≤ L → ra = some ⟨g, 2, none⟩) ∧ ∀ W, (Instr.slice 31 (.slice (some ⟨g, 0, none⟩) L cap) (some (.int .i64 1)) none none).run Tryd.prog W = .ok (.slice ra (L - 1) (cap - 1)) W := by
  refine ⟨if cap = 1 then some ⟨g, 0, none⟩ else some ⟨g, 2, none⟩, fun h => if_neg (by omega), fun W => ?_⟩
  have hsz : (sizeOf (Tryd.prog.elem 31)).run Tryd.prog W = .ok 2 W := by kernel_rfl
  rw [run_slice_l W 31 _ L cap (by kernel_rfl) _ _ (by omega) (by omega), hsz]
  by_cases h : cap = 1
  · simp [Result.andThen, sliced, h]
  · simp [Result.andThen, sliced, h, Addr.add]
end Go.Proofs.YtnbillhodbcfbaaDoor

/- Plain: the table turned. -/
namespace Go.Proofs.YtnbillhodbcfbaaDoor
open Go.RowKit Go.Sort Go.Shelf

/-- all seats passed on by k -/
structure Rot (k : Nat) (t t' : Tb) : Prop where
  ld : t'.ld = (t.ld + k) % 4
  cs : t'.cs = t.cs
  h : ∀ s, s < 4 → t'.h ((s + k) % 4) = t.h s
variable {k : Nat} {t t' : Tb}
theorem Rot.turn (H : Rot k t t') : t'.turn = (t.turn + k) % 4 := by
  unfold Tb.turn; rw [H.ld, H.cs]; omega
theorem Rot.hand (H : Rot k t t') : t'.h t'.turn = t.h t.turn := by rw [H.turn]; exact H.h _ t.turn_lt
theorem Rot.legal (H : Rot k t t') (c : Nat) : t'.legal c = t.legal c := by unfold Tb.legal; rw [H.hand, H.cs]
theorem Rot.cards (H : Rot k t t') : t'.cards = t.cards := by
  unfold Tb.cards
  exact List.filter_congr fun c _ => H.legal c
theorem Rot.push (H : Rot k t t') (c : Nat) : Rot k (t.push c) (t'.push c) := by
  refine ⟨H.ld, by show t'.cs ++ [c] = t.cs ++ [c]; rw [H.cs], fun s hs => ?_⟩
  show (if (s + k) % 4 = t'.turn then landn (t'.h ((s + k) % 4)) (shl1 c) else t'.h ((s + k) % 4)) = (if s = t.turn then landn (t.h s) (shl1 c) else t.h s)
  rw [H.h s hs, H.turn]
  have ht := t.turn_lt
  by_cases e : s = t.turn
  · rw [if_pos e, if_pos (by rw [e])]
  · rw [if_neg e, if_neg (by omega)]
theorem Rot.win (H : Rot k t t') (tr : Nat) : t'.win tr = (t.win tr + k) % 4 := by
  unfold Tb.win; rw [H.ld, H.cs]; omega
theorem Rot.settle (H : Rot k t t') (tr : Nat) : Rot k (t.settle tr).1 (t'.settle tr).1 ∧ (t'.settle tr).2 = if t.cs.length < 4 then 0 else 1 - (t.win tr + k) % 4 % 2 := by
  unfold Tb.settle
  rw [H.cs, H.win tr]
  by_cases e : t.cs.length < 4
  · rw [if_pos e, if_pos e, if_pos e]; exact ⟨H, rfl⟩
  · rw [if_neg e, if_neg e, if_neg e]
    exact ⟨⟨rfl, rfl, H.h⟩, rfl⟩
theorem bestL_compl {ns : Bool} {q : Nat} {l : List Nat} (h0 : l ≠ []) (hq : ∀ x ∈ l, x ≤ q) : bestL (!ns) (l.map fun x => q - x) = q - bestL ns l := by
  obtain ⟨h1, h2⟩ := bestL_spec ns h0
  refine bestL_eq (List.mem_map.2 ⟨_, h1, rfl⟩) fun x hx => ?_
  obtain ⟨y, hy, rfl⟩ := List.mem_map.1 hx
  have h3 := h2 y hy
  have h4 := hq y hy
  unfold better at h3 ⊢
  cases ns
  · simp only [Bool.false_eq_true, if_false, Bool.not_false, if_true] at h3 ⊢; omega
  · simp only [if_true, Bool.not_true, Bool.false_eq_true, if_false] at h3 ⊢; omega
theorem put_eq (t : Tb) (tr c : Nat) : t.put tr c = (t.push c).settle tr := rfl
theorem push_len (t : Tb) (c : Nat) : (t.push c).cs.length = t.cs.length + 1 := by show (t.cs ++ [c]).length = _; simp
theorem worth_eq (tr n : Nat) (t : Tb) (c : Nat) : worth tr n t c = (t.put tr c).2 + val tr n (t.put tr c).1 := rfl
/-- passed on by two seats (or none): the same; by one (or three): the sides exchange their tricks -/
theorem rot_val (tr : Nat) : ∀ (n q : Nat) (t t' : Tb), Rot k t t' → TbOk t → Evn q t → n + t.cs.length = 4 * q → val tr n t' = if k % 2 = 0 then val tr n t else q - val tr n t
  | 0, q, t, t', _, hk, _, hn => by
    have := hk.pk.2
    obtain rfl : q = 0 := by omega
    show 0 = if k % 2 = 0 then 0 else 0 - 0
    split <;> rfl
  | n + 1, q, t, t', H, hk, he, hn => by
    have hq : 0 < q := by omega
    have hc0 := cards_some hk he hq
    have e1 : val tr (n + 1) t = bestL t.ns (t.cards.map (worth tr n t)) := rfl
    have e2 : val tr (n + 1) t' = bestL t'.ns (t'.cards.map (worth tr n t')) := rfl
    have hl := hk.pk.2
    have step : ∀ c ∈ t.cards, worth tr n t' c = if k % 2 = 0 then worth tr n t c else q - worth tr n t c := fun c hc => by
      obtain ⟨hc52, hb⟩ := legal_bit hc
      obtain ⟨r1, r2⟩ := (H.push c).settle tr
      have hok := ok_put hk (tr := tr) hc52
      rw [worth_eq, worth_eq, put_eq t' tr c, r2]
      have hs : (t.put tr c).2 = if (t.push c).cs.length < 4 then 0 else 1 - (t.push c).win tr % 2 := by
        rw [put_eq]
        unfold Tb.settle
        split <;> rfl
      rw [push_len] at hs ⊢
      rcases he.put hl tr (by omega) hb with ⟨h1, h2, h3⟩ | ⟨h1, h2, h3⟩
      · have ih := rot_val tr n q _ _ r1 hok h2 (by rw [put_eq] at h3; rw [h3]; omega)
        have hv := val_le tr n q _ (by rw [h3]; omega) h2 (by rw [h3]; omega)
        rw [if_pos (show t.cs.length + 1 < 4 by omega)] at hs ⊢
        rw [hs, ih, put_eq]
        split <;> omega
      · have ih := rot_val tr n (q - 1) _ _ r1 hok h2 (by rw [put_eq] at h3; rw [h3]; simp; omega)
        have hv := val_le tr n (q - 1) _ (by rw [h3]; simp) h2 (by rw [h3]; simp; omega)
        rw [if_neg (show ¬ t.cs.length + 1 < 4 by omega)] at hs ⊢
        rw [hs, ih, put_eq]
        rw [put_eq] at hv
        split <;> omega
    have hns : t'.ns = if k % 2 = 0 then t.ns else !t.ns := by
      unfold Tb.ns
      rw [H.turn]
      have := t.turn_lt
      split
      · rw [Bool.eq_iff_iff, beq_iff_eq, beq_iff_eq]; omega
      · rw [Bool.eq_iff_iff, beq_iff_eq, Bool.not_eq_true', beq_eq_false_iff_ne]; omega
    rw [e1, e2, H.cards, hns]
    by_cases hk2 : k % 2 = 0
    · rw [if_pos hk2, if_pos hk2]
      congr 1
      refine List.map_congr_left fun c hc => ?_
      rw [step c hc, if_pos hk2]
    · rw [if_neg hk2, if_neg hk2, ← bestL_compl (by simpa using hc0) (fun x hx => ?_)]
      · congr 1
        rw [List.map_map]
        refine List.map_congr_left fun c hc => ?_
        rw [step c hc, if_neg hk2]; rfl
      · obtain ⟨c, hc, rfl⟩ := List.mem_map.1 hx
        obtain ⟨hc52, hb⟩ := legal_bit hc
        exact worth_le tr n q hl he (by omega) (by omega) hb
end Go.Proofs.YtnbillhodbcfbaaDoor
