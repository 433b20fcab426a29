/- DsE, DsF, DsH in one text. -/
import Derived.Test.YtnbillhodbcfbaaDoorMDra
import Derived.Test.YtnbillhodbcfbaaDoorMCls
import Derived.Test.YtnbillhodbcfbaaDoorMDpm
import Derived.Test.YtnbillhodbcfbaaDoorDmPl
import Derived.Test.YtnbillhodbcfbaaDoorMLow
import Derived.Deep.AppendSrc
import Derived.BigQuiet
import Derived.Deep.Upon
import Derived.BigFrame
import Derived.Laws.BytesArg
import Derived.Laws.StructEq
import Derived.ChangeKeysEq

/- The reference of chapter 15 over this seat's program: After. -/
namespace Go.Proofs.YtnbillhodbcfbaaDoor
open Go.RowKit Go.Shelf Go.Sort Go.Maps Go.WideMaps

theorem quiet_row {P : Program} {ops : Array Oper} {C : World → Prop} {Q : Act → Prop} {a : Act} {o : Oper} {rest : List Oper} (hgd : o.guard = none) (ty : TypeId) (x : Operand) (ho : o.op = .load ty x) (g : Nat) (hx : a.eval x = .pointer (some ⟨g, 0, none⟩)) {t : TypeId} {cs : Array Value} {d : TypeDesc}
    (hg : ∀ w', C w' → Row w' g t cs) (hu : P.underlying ty = some d) (hd : (match d with | .struct _ | .array _ _ => true | _ => false) = true) (hi : (P.info? ty).map (·.size) = some cs.size) (h : wpQuiet P ops C Q rest (a.put o.dst (.agg cs))) : wpQuiet P ops C Q (o :: rest) a := by
  refine BigFrame.wpQuiet_want (by simp [Region.wanted, hgd]) fun K hK => ⟨.agg cs, fun w hw => ?_, hK _ h⟩
  unfold Oper.quietAt
  rw [exec_load_row ty x ho g hx (hg w hw) hu hd hi]
  exact ⟨rfl, rfl⟩
theorem src_empty {P : Program} {size : Nat} {t e : TypeId} (ht : P.underlying t = some (.slice e)) (a : Option Addr) (c : Nat) (w : World) : Src P size t (.slice a 0 c) 0 [] w := by
  cases a with
  | none => exact Src.ofNil w ht c
  | some a => exact Src.ofSlice w ht a 0 c [] (by simp) (fun j u h => by simp at h) (fun u h => by simp at h)
/-- append(v, src...), v the call's own, src any slice of bytes -/
theorem appB {w : World} {ops : Array Oper} {rest : List Oper} {o : Oper} {a : Act} {Q : Exit → Act → World → Prop} (hgd : o.guard = none) (s x : Operand)
    (ho : o.op = .call { callee := .builtin .append, args := #[s, x], argTypes := #[25, 25] })
    (base : Nat) (v : Value) (zs ys : List Nat) (hs : a.eval s = v) (hown : OwnU w base v zs) (ad : Option Addr) (m c : Nat) (hx : a.eval x = .slice ad m c) (hy : Byt w ad m ys)
    (hbytes : zs.length + m ≤ 140737488355328) (hbase : base ≤ w.heap.size)
    (h : ∀ v' w', OwnU w' base v' (zs ++ ys) → Below base w w' → w.grownBy w' v.ownBlock → (v'.ownBlock = v.ownBlock ∨ v'.ownBlock = some w.heap.size) → wpList Tryd.prog ops Q rest (a.put o.dst v') w') : wpList Tryd.prog ops Q (o :: rest) a w := by
  by_cases hm : m = 0
  · subst hm
    obtain rfl : ys = [] := List.eq_nil_of_length_eq_zero hy.length
    obtain ⟨i0, hi, hz0, hz1, hz2⟩ := info_parts info_u8'
    rcases hown.form with ⟨rfl, rfl⟩ | ⟨g, cap, rfl, h1, h2, h3, h4⟩
    · refine wpList_plain hgd fun K hK => ?_
      have hr := run_append_nothing (P := Tryd.prog) w 25 25 o.type 5 i0 Tryd.underlying25 hi (none) 0 0 (Nat.le_refl _) (.slice ad 0 c) (src_empty Tryd.underlying25 ad c w)
      unfold Oper.wp execOp
      simp only [ho, resolve, invoke, builtin, Sem.run_bind, Sem.run_pure, Result.andThen_ok, List.map_toArray, List.map_cons, List.map_nil, hs, hx, hr]
      exact hK _ _ (h _ w (by rw [List.append_nil]; exact hown) (Below.refl _ _) ⟨rfl, rfl, rfl, Nat.le_refl _, fun _ _ _ => rfl⟩ (.inl rfl))
    · refine wpList_plain hgd fun K hK => ?_
      have hr := run_append_nothing (P := Tryd.prog) w 25 25 o.type 5 i0 Tryd.underlying25 hi (some ⟨g, 0, none⟩) zs.length cap h3 (.slice ad 0 c) (src_empty Tryd.underlying25 ad c w)
      unfold Oper.wp execOp
      simp only [ho, resolve, invoke, builtin, Sem.run_bind, Sem.run_pure, Result.andThen_ok, List.map_toArray, List.map_cons, List.map_nil, hs, hx, hr]
      exact hK _ _ (h _ w (by rw [List.append_nil]; exact hown) (Below.refl _ _) ⟨rfl, rfl, rfl, Nat.le_refl _, fun _ _ _ => rfl⟩ (.inl rfl))
  · obtain ⟨b, off, rfl, -, -⟩ := hy.at (by omega)
    exact appU hgd s x ho base v zs ys hs hown _ m c hx hy hbytes hbase h
theorem grownBy_row (W : World) (g : Nat) (cs : Array Value) : W.grownBy (W.setRow g cs) (some g) :=
  ⟨rfl, rfl, rfl, Nat.le_of_eq (size_setRow _ _ _).symm, fun k _ hne => setRow_other _ _ _ _ fun e => hne (by rw [e])⟩
theorem OwnU.row {W : World} {base b : Nat} {v : Value} {l : List Nat} {T' : TypeId} {cs : Array Value} (h : OwnU W base v l) (hr : Row W b T' cs) (hne : T' ≠ 5) (x : Array Value) : OwnU (W.setRow b x) base v l := Owns.kept h (grownBy_row W b x) (.inl (own_apart h hr hne))
theorem OwnU.cell {W : World} {base b : Nat} {v : Value} {l : List Nat} {T' : TypeId} {cs : Array Value} (h : OwnU W base v l) (hr : Row W b T' cs) (hne : T' ≠ 5) (i : Nat) (x : Value) : OwnU (W.setCell ⟨b, i, none⟩ x) base v l := Owns.kept h (grownBy_set (World.grownBy.refl W (some b)) (.inl rfl) x) (.inl (own_apart h hr hne))
theorem Row.grown {W W' : World} {b : Nat} {t : TypeId} {cs : Array Value} {row : Option Nat} (h : Row W b t cs) (hg : W.grownBy W' row) (hne : row ≠ some b) : Row W' b t cs := (hg.block b h.lt fun e => hne e.symm).trans h
/-- what the reference's After gives back -/
def AfterOk (u : Tb) (tr won : Nat) (w : World) (e : Ending) (w' : World) : Prop := ∃ v, e = .returned (.tuple #[.agg (posA u.h tr u.ld v), .int .i64 (won : Int)]) ∧ OwnU w' w.heap.size v u.cs ∧ Below w.heap.size w w'
theorem trick_ne {t : Tb} (hu : Uniq t) {c : Nat} (hl : t.legal c = true) (h3 : t.cs.length = 3) : ∀ i j, i < 4 → j < 4 → (t.cs ++ [c]).getD i 0 = (t.cs ++ [c]).getD j 0 → i = j := by
  have hb := (legal_iff.1 hl).1
  have own : ∀ i, i < 4 → Own t ((t.ld + i) % 4) ((t.cs ++ [c]).getD i 0) := fun i hi => by
    by_cases e : i < 3
    · refine own_trick ?_
      rw [List.getD_eq_getElem?_getD, List.getElem?_append_left (by omega), List.getElem?_eq_getElem (by omega)]; rfl
    · obtain rfl : i = t.cs.length := by omega
      have e2 : (t.cs ++ [c]).getD t.cs.length 0 = c := by
        rw [List.getD_eq_getElem?_getD, List.getElem?_append_right (Nat.le_refl _), Nat.sub_self]; rfl
      rw [e2]
      exact own_hand (Nat.mod_lt _ (by decide)) hb
  intro i j hi hj e
  have h1 := own i hi
  have h2 := own j hj
  rw [e] at h1
  have := hu _ _ _ h1 h2
  omega
set_option maxHeartbeats 4000000 in
set_option maxRecDepth 10000 in
theorem dr_After (t : Tb) (hk : TbOk t) (hu : Uniq t) (tr c : Nat) (htr : tr < 256) (hl : t.legal c = true) (a : Option Addr) (cap : Nat) (w : World) (hz : Byt w a t.cs.length t.cs) :
    Calls Tryd.prog 80 #[.agg (posA t.h tr t.ld (.slice a t.cs.length cap)), .int .i64 (c : Int)] w (AfterOk (t.put tr c).1 tr (t.put tr c).2 w) := by
  have hb := (legal_iff.1 hl).1
  have hc52 : c < 52 := hk.pk.1 _ t.turn_lt _ hb
  have HNE := Lib.hid (trick_ne hu hl)
  have HT4 : Hid (t.turn < 4) := Lib.hid t.turn_lt
  have hld := hk.ld
  have HTU := Lib.hid (fun W => dr_Turn t.h tr t.ld t.cs.length a cap (by omega) (by have := hk.pk.2; omega) W)
  have HSUB := Lib.hid (sub_shl1 (show c < 64 by omega) hb)
  have HW := Lib.hid hk.w64
  have HPUT : Hid (t.put tr c = (t.push c).settle tr) := Lib.hid rfl
  have HPU : Hid (∀ tr ld v, (posA t.h tr ld v).setIfInBounds t.turn (.int .u64 ((landn (t.h t.turn) (shl1 c) : Nat) : Int)) = posA (t.push c).h tr ld v) := Lib.hid (fun tr ld v => by
    have h4 := t.turn_lt
    unfold posA Tb.push
    rcases (show t.turn = 0 ∨ t.turn = 1 ∨ t.turn = 2 ∨ t.turn = 3 by omega) with e | e | e | e <;> rw [e] <;> simp)
  have HLN : Hid (t.cs.length < 4 ∧ ∀ i, t.cs.getD i 0 < 256) := Lib.hid ⟨hk.pk.2, fun i => hz.byte i⟩
  have HLD := Lib.hid hld
  have hturn : (t.ld + t.cs.length) % 4 = t.turn := rfl
  rw [hturn] at HTU
  obtain ⟨PA, hPA⟩ : ∃ A, posA t.h tr t.ld (.slice a t.cs.length cap) = A := ⟨_, rfl⟩
  have HPE : Hid (PA = #[.int .u64 (t.h 0 : Int), .int .u64 (t.h 1 : Int), .int .u64 (t.h 2 : Int), .int .u64 (t.h 3 : Int), .int .u8 (tr : Int), .int .u8 (t.ld : Int), .slice a t.cs.length cap]) := Lib.hid hPA.symm
  have HQE : Hid (posA t.h tr t.ld (.slice none 0 0) = #[.int .u64 (t.h 0 : Int), .int .u64 (t.h 1 : Int), .int .u64 (t.h 2 : Int), .int .u64 (t.h 3 : Int), .int .u8 (tr : Int), .int .u8 (t.ld : Int), .slice none 0 0]) := Lib.hid rfl
  rw [hPA] at HTU
  have HYZ := Lib.hid hz
  clear hPA hturn hz hl hb hk hu hld
  unfold posA
  go_enter Tryd.func80, Tryd.ntmps80
  go_upto_region 2 with fail
  rw [← HPE.out, ← HQE.out]
  have HR2 := Lib.hid (((Row.new w 62 PA).alloc (.cells zeroP 62)).alloc (.cells (posA t.h tr t.ld (.slice none 0 0)) 62))
  have HR4 := Lib.hid ((Row.new1 w (.cells PA 62) 62 zeroP).alloc (.cells (posA t.h tr t.ld (.slice none 0 0)) 62))
  have HR6 := Lib.hid (Row.new2 w (.cells PA 62) (.cells zeroP 62) 62 (posA t.h tr t.ld (.slice none 0 0)))
  have HB1 := Lib.hid ((((Below.refl w.heap.size w).alloc (Nat.le_refl _) (.cells PA 62)).alloc (by rw [World.size_alloc]; omega) (.cells zeroP 62)).alloc (by rw [World.size_alloc, World.size_alloc]; omega) (.cells (posA t.h tr t.ld (.slice none 0 0)) 62))
  generalize ((w.alloc (.cells PA 62)).alloc (.cells zeroP 62)).alloc (.cells (posA t.h tr t.ld (.slice none 0 0)) 62) = w1 at *
  have HPZ : Hid (PA.size = 7 ∧ PA[4]? = some (.int .u8 (tr : Int)) ∧ PA[5]? = some (.int .u8 (t.ld : Int)) ∧ PA[6]? = some (.slice a t.cs.length cap)) := Lib.hid (by rw [HPE.out]; exact ⟨rfl, rfl, rfl, rfl⟩)
  clear HPE HQE
  obtain ⟨b2, hb2⟩ : ∃ b, w.heap.size = b := ⟨_, rfl⟩
  have HBS := Lib.hid hb2
  rw [hb2] at HR2 HR4 HR6 ⊢
  obtain ⟨b4, hb4⟩ : ∃ b, b2 + 1 = b := ⟨_, rfl⟩
  rw [hb4] at HR4 HR6 ⊢
  obtain ⟨b6, hb6⟩ : ∃ b, b4 + 1 = b := ⟨_, rfl⟩
  rw [hb6] at HR6 ⊢
  have HBB := Lib.hid (And.intro hb4 hb6)
  clear hb2 hb4 hb6
  obtain ⟨s, hs⟩ : ∃ s, t.turn = s := ⟨_, rfl⟩
  rw [hs] at HTU HT4 HPU HSUB
  have hs4 := HT4.out
  have hs4i : (s : Int) < 4 := by omega
  have hsub : (t.h s : Int) - (shl1 c : Int) = ((landn (t.h s) (shl1 c) : Nat) : Int) := by have := HSUB.out; omega
  have hwl : W64 (landn (t.h s) (shl1 c)) := (HW.out s).landn
  obtain ⟨m2, hm2⟩ : ∃ m, landn (t.h s) (shl1 c) = m := ⟨_, rfl⟩
  rw [hm2] at hsub hwl HPU
  have hwr : IntKind.u64.wrap (m2 : Int) = (m2 : Int) := wrap_u64 _ hwl
  have cs := (HR6.out.cell s).trans (posA_h _ _ _ _ hs4)
  have fs := fun dd os => cell_regrown cs dd os
  clear hm2 hs cs
  refine wp_region_below_tail 12 (by kernel_rfl) (by kernel_rfl) ?_
  simp only [List.take_succ_cons, List.take_zero, List.drop_succ_cons, List.drop_zero]
  repeat (first | (refine quiet_row rfl 62 (.tmp 2) rfl b2 rfl (fun w' hw' => by obtain ⟨p, rfl⟩ := hw'; exact HR2.out.later (below_regrown _ _ _)) Tryd.underlying62 rfl (by rw [HPZ.out.1]; exact size_rpos) ?_) | quiet_step (with_reducible exact Calls.regrown_of (HTU.out _)))
  refine wpQuiet_nil ?_
  rintro _ ⟨p, rfl⟩
  have hb := below_regrown w1 p.d p.os
  have HR2a := Lib.hid (HR2.out.later hb)
  have HR4a := Lib.hid (HR4.out.later hb)
  have HR6a := Lib.hid (HR6.out.later hb)
  have HBa := Lib.hid (HB1.out.trans (hb.mono HB1.out.size))
  generalize grow (redrawn w1 p.d) p.os = wa at *
  clear hb fs
  have cs := (HR6a.out.cell s).trans (posA_h _ _ _ _ hs4)
  have fr := HR6a.out.frozen s
  have HR6b := Lib.hid (HR6a.out.set s (.int .u64 (m2 : Int)))
  have HR2b := Lib.hid (HR2a.out.other (B' := b6) (i := s) (v := .int .u64 (m2 : Int)) (by have := HBB.out; omega))
  have HR4b := Lib.hid (HR4a.out.other (B' := b6) (i := s) (v := .int .u64 (m2 : Int)) (by have := HBB.out; omega))
  have HBb := Lib.hid (But.below HBa.out (But.setCell (B := w.heap.size) (Bm := b6) wa s (.int .u64 (m2 : Int))) (Nat.le_refl _) (by have := HBS.out; have := HBB.out; omega))
  rw [HPU.out] at HR6b
  go_upto_region 3 with fail
  clear cs fr hsub hwr
  generalize wa.setCell ⟨b6, s, none⟩ (.int .u64 (m2 : Int)) = wb at *
  obtain ⟨U, hU⟩ : ∃ U, t.push c = U := ⟨_, rfl⟩
  have HUE : Hid (U.ld = t.ld ∧ U.cs = t.cs ++ [c]) := Lib.hid (by rw [← hU]; exact ⟨rfl, rfl⟩)
  rw [hU] at HR6b HPUT HPU
  clear hU
  obtain ⟨n, hn⟩ : ∃ n, t.cs.length = n := ⟨_, rfl⟩
  have HN := Lib.hid hn
  have hn4 : n < 4 := by rw [← hn]; exact HLN.out.1
  have HYb := Lib.hid (HYZ.out.below (Nat.le_refl _) HBb.out)
  rw [hn] at HYb HPZ
  clear hn
  have c26 := ((HR2b.out.alloc (.cells #[] 5)).cell 6).trans HPZ.out.2.2.2
  have hlt2 : b2 < wb.heap.size := HR2b.out.lt
  have HOW0 := Lib.hid (ownU_made0 wb w.heap.size HBb.out.size)
  have HYc := Lib.hid (HYb.out.below (Nat.le_refl _) ((Below.refl wb.heap.size wb).alloc (Nat.le_refl _) (.cells #[] 5)))
  have hsz : w.heap.size ≤ (wb.alloc (.cells #[] 5)).heap.size := by rw [World.size_alloc]; have := HBb.out.size; omega
  go_wp2_with (at_builtin; refine appB rfl (.tmp 27) (.tmp 29) rfl w.heap.size _ [] t.cs rfl HOW0.out a n cap rfl HYc.out (by simp; omega) hsz ?_)
  intro v1 w2 hov1 hb1 hg1 hv1
  obtain ⟨va1, vc1, rfl, -⟩ := hov1.slice
  simp only [HN.out] at hov1 hv1 ⊢
  have HOV1 := Lib.hid hov1
  have hltb : ∀ {b : Nat} {t : TypeId} {cs : Array Value}, Row wb b t cs → Row w2 b t cs ∧ (Value.slice va1 n vc1).ownBlock ≠ some b := fun {b} {_} {_} h => by
    have h1 := h.lt
    refine ⟨(h.alloc _).grown hg1 ?_, ?_⟩
    · simp only [Value.ownBlock, ne_eq, Option.some.injEq]; omega
    · rcases hv1 with e | e
      · rw [e]; simp only [Value.ownBlock, ne_eq, Option.some.injEq]; omega
      · rw [e]; simp only [ne_eq, Option.some.injEq]; omega
  have HR2c := Lib.hid (hltb HR2b.out)
  have HR4c := Lib.hid (hltb HR4b.out)
  have HR6c := Lib.hid (hltb HR6b.out)
  have HBc := Lib.hid ((HBb.out.alloc HBb.out.size (.cells #[] 5)).trans hb1)
  clear c26 hlt2 hsz hov1 hb1 hg1 hv1 hltb HOW0 HYc
  have hsz : w.heap.size ≤ (w2.alloc (.cells #[.int .u8 (c : Int)] 5)).heap.size := by rw [World.size_alloc]; have := HBc.out.size; omega
  have HLC := Lib.hid HN.out
  go_wp2_with (at_builtin; refine appU rfl (.tmp 30) (.tmp 33) rfl w.heap.size _ t.cs [c] rfl (HOV1.out.alloc _) _ _ _ rfl (byt_new1 w2 c (by omega)) (by rw [HLC.out]; omega) hsz ?_)
  intro v2 w3 hov2 hb2 hg2 hv2
  obtain ⟨va2, vc2, rfl, -⟩ := hov2.slice
  rw [show (t.cs ++ [c]).length = n + 1 by rw [List.length_append, HLC.out]; rfl] at hov2 hv2 ⊢
  have HOV2 := Lib.hid hov2
  have hrow : ∀ {b : Nat} {t : TypeId} {cs : Array Value}, Row w2 b t cs ∧ (Value.slice va1 n vc1).ownBlock ≠ some b → Row w3 b t cs := fun {b} {_} {_} h => (h.1.alloc _).grown hg2 h.2
  have HR2d := Lib.hid (hrow HR2c.out)
  have HR4d := Lib.hid (hrow HR4c.out)
  have HR6d := Lib.hid (hrow HR6c.out)
  have HBd := Lib.hid ((HBc.out.alloc HBc.out.size (.cells #[.int .u8 (c : Int)] 5)).trans hb2)
  clear hov2 hv2 hb2 hg2 hrow hsz HR2c HR4c HR6c HOV1 HBc
  have c66 : w3.cell? ⟨b6, 6, none⟩ = some (.slice none 0 0) := HR6d.out.cell 6
  have f66 := HR6d.out.frozen 6
  go_upto_region 4 with fail
  clear c66 f66
  have HR6e := Lib.hid (HR6d.out.set 6 (.slice va2 (n + 1) vc2))
  have HR2e := Lib.hid (HR2d.out.other (B' := b6) (i := 6) (v := .slice va2 (n + 1) vc2) (by have := HBB.out; omega))
  have HR4e := Lib.hid (HR4d.out.other (B' := b6) (i := 6) (v := .slice va2 (n + 1) vc2) (by have := HBB.out; omega))
  have HOe := Lib.hid (HOV2.out.cell HR6d.out (by decide) 6 (.slice va2 (n + 1) vc2))
  have HBe := Lib.hid (But.below HBd.out (But.setCell (B := w.heap.size) (Bm := b6) w3 6 (.slice va2 (n + 1) vc2)) (Nat.le_refl _) (by have := HBS.out; have := HBB.out; omega))
  generalize w3.setCell ⟨b6, 6, none⟩ (.slice va2 (n + 1) vc2) = w4 at *
  have he : (posA U.h tr t.ld (.slice none 0 0)).setIfInBounds 6 (.slice va2 (n + 1) vc2) = posA U.h tr U.ld (.slice va2 (n + 1) vc2) := by rw [HUE.out.1]; rfl
  rw [he] at HR6e
  clear he HR6d HR2d HR4d HOV2 HBd
  have c66 : w4.cell? ⟨b6, 6, none⟩ = some (.slice va2 (n + 1) vc2) := HR6e.out.cell 6
  by_cases hn3 : n < 3
  · have hlt : (n : Int) + 1 < 4 := by omega
    have HRES : Hid (t.put tr c = (U, 0)) := Lib.hid (by
      rw [HPUT.out]
      unfold Tb.settle
      rw [if_pos (by rw [HUE.out.2, List.length_append, HN.out]; simp; omega)])
    obtain ⟨QA, hQA⟩ : ∃ A, posA U.h tr U.ld (.slice va2 (n + 1) vc2) = A := ⟨_, rfl⟩
    have HQA := Lib.hid hQA
    have HQZ : Hid (QA.size = 7 ∧ QA.all (·.oneCell') = true) := Lib.hid (by rw [← hQA]; exact ⟨rfl, by simp [posA, Value.oneCell']⟩)
    rw [hQA] at HR6e
    clear hQA hn3
    go_wp2_with (first
      | refine wpList_load_row rfl 62 (.tmp 6) rfl b6 rfl 62 QA (0, 0) _ HR6e.out Tryd.underlying62 rfl (by rw [HQZ.out.1]; exact size_rpos) ?_
      | refine wpList_store_row rfl 62 (.tmp 4) (.tmp 40) rfl b4 QA rfl rfl 62 _ HR4e.out (by rw [HQZ.out.1]; exact size_rpos) (by rw [HQZ.out.1]; rfl) HQZ.out.2 ?_)
    refine bodyPost_ret (v := .tuple #[.agg QA, .int .i64 0]) (results_cellt Tryd.results80 _ _ b4 _ QA (0, 0) _ rfl (setRow_heap _ _ _ _ _ _ HR4e.out) Tryd.underlying62 rfl (by rw [HQZ.out.1]; exact size_rpos)) rfl ⟨.slice va2 (n + 1) vc2, by rw [HRES.out, HQA.out]; rfl, ?_, below_setRow HBe.out (by have := HBS.out; have := HBB.out; omega) _⟩
    have := HOe.out.row HR4e.out (by decide) QA
    rw [← HUE.out.2] at this
    rw [HRES.out]
    exact this
  · obtain rfl : n = 3 := by omega
    clear hn3 hn4
    simp only [Nat.reduceAdd] at c66 HOe ⊢
    have HYW : Hid (Byt w4 va2 4 (t.cs ++ [c])) := Lib.hid (by
      obtain ⟨a', cap', e, -, -, -, -, hb⟩ := HOe.out.byt (by rw [List.length_append, HN.out]; simp) (fun i => by
        rcases Nat.lt_or_ge i 3 with h | h
        · rw [List.getD_eq_getElem?_getD, List.getElem?_append_left (by rw [HN.out]; exact h), ← List.getD_eq_getElem?_getD]
          exact HLN.out.2 i
        · rw [List.getD_eq_getElem?_getD, List.getElem?_append_right (by rw [HN.out]; exact h)]
          rcases h2 : i - t.cs.length with _ | k
          · simp; omega
          · simp)
      have hl4 : (t.cs ++ [c]).length = 4 := by rw [List.length_append, HN.out]; rfl
      rw [hl4] at e hb
      injection e with e1 e2 e3
      rw [e1]; exact hb)
    have HWN := Lib.hid (fun W (hb : Below w4.heap.size w4 W) => dr_winner tr (t.cs ++ [c]) va2 vc2 htr (HNE.out HN.out) W (HYW.out.below (Nat.le_refl _) hb))
    obtain ⟨r, hr⟩ : ∃ r, bestTo tr (fun i => (t.cs ++ [c]).getD i 0) 3 = r := ⟨_, rfl⟩
    have hr3 : r ≤ 3 := by rw [← hr]; exact bestTo_le _ _ _
    rw [hr] at HWN
    obtain ⟨l0, hl0⟩ : ∃ l, t.ld = l := ⟨_, rfl⟩
    have HL0 := Lib.hid hl0
    obtain ⟨x, hx⟩ : ∃ x, (l0 + r) % 4 = x := ⟨_, rfl⟩
    have hx4 : x < 4 := by omega
    have HRES : Hid (t.put tr c = (⟨U.h, x, []⟩, 1 - x % 2)) := Lib.hid (by
      rw [HPUT.out]
      unfold Tb.settle
      have e : U.win tr = x := by
        unfold Tb.win
        rw [HUE.out.1, HUE.out.2, hl0, ← hx]
        congr 2
      rw [if_neg (by rw [HUE.out.2, List.length_append, HN.out]; simp), e])
    have hl256 : l0 < 256 := by rw [← hl0]; have := HLD.out; omega
    have c24 := (HR2e.out.cell 4).trans HPZ.out.2.1
    have c25 := (HR2e.out.cell 5).trans HPZ.out.2.2.1
    rw [hl0] at c25
    have hrem : Int.tmod ((l0 : Int) + (r : Int)) 4 = (x : Int) := by rw [Int.tmod_eq_emod_of_nonneg (by omega)]; omega
    have hwr : IntKind.i64.wrap ((l0 : Int) + (r : Int)) = (l0 : Int) + (r : Int) := IntWalk.i64_in _ (by omega)
    have hwl0 : IntKind.i64.wrap (l0 : Int) = (l0 : Int) := IntWalk.i64_in _ (by omega)
    have f66 := fun dd os => cell_regrown c66 dd os
    have f24 := fun dd os => cell_regrown c24 dd os
    have f25 := fun dd os => cell_regrown c25 dd os
    clear hr hx hl0 c24 c25
    rw [HL0.out]
    go_wp2_with fail
    refine wp_region_quiet_below (by kernel_rfl) (by kernel_rfl) ?_
    repeat (quiet_step (with_reducible exact Calls.regrown_of (HWN.out _ (below_regrown _ _ _))))
    refine wpQuiet_nil ?_
    rintro _ ⟨q, rfl⟩
    have hb := below_regrown w4 q.d q.os
    have HR4f := Lib.hid (HR4e.out.later hb)
    have HR6f := Lib.hid (HR6e.out.later hb)
    have HBf := Lib.hid (HBe.out.trans (hb.mono HBe.out.size))
    generalize grow (redrawn w4 q.d) q.os = w5 at *
    clear hb f66 f24 f25 c66 hrem hwr hwl0 HR2e HOe
    have c65 : ∃ u, w5.cell? ⟨b6, 5, none⟩ = some u := ⟨_, HR6f.out.cell 5⟩
    obtain ⟨u65, c65⟩ := c65
    have c66 : w5.cell? ⟨b6, 6, none⟩ = some (.slice va2 (3 + 1) vc2) := HR6f.out.cell 6
    have f65 := HR6f.out.frozen 5
    have f66 := HR6f.out.frozen 6
    have HR6g := Lib.hid ((HR6f.out.set 5 (.int .u8 (x : Int))).set 6 (.slice none 0 0))
    have HR4g := Lib.hid ((HR4f.out.other (B' := b6) (i := 5) (v := .int .u8 (x : Int)) (by have := HBB.out; omega)).other (B' := b6) (i := 6) (v := .slice none 0 0) (by have := HBB.out; omega))
    have HBg := Lib.hid (But.below HBf.out ((But.setCell (B := w.heap.size) (Bm := b6) w5 5 (.int .u8 (x : Int))).trans (But.setCell (B := w.heap.size) (Bm := b6) _ 6 (.slice none 0 0))) (Nat.le_refl _) (by have := HBS.out; have := HBB.out; omega))
    have he : ((posA U.h tr U.ld (.slice va2 (3 + 1) vc2)).setIfInBounds 5 (.int .u8 (x : Int))).setIfInBounds 6 (.slice none 0 0) = posA U.h tr x (.slice none 0 0) := rfl
    rw [he] at HR6g
    clear he
    go_upto_region 8 with fail
    clear c65 c66 f65 f66 HR6f HR4f HBf HR6e HR4e HBe
    generalize (w5.setCell ⟨b6, 5, none⟩ (.int .u8 (x : Int))).setCell ⟨b6, 6, none⟩ (.slice none 0 0) = w6 at *
    obtain ⟨QA, hQA⟩ : ∃ A, posA U.h tr x (.slice none 0 0) = A := ⟨_, rfl⟩
    have HQA := Lib.hid hQA
    have HQZ : Hid (QA.size = 7 ∧ QA.all (·.oneCell') = true) := Lib.hid (by rw [← hQA]; exact ⟨rfl, by simp [posA, Value.oneCell']⟩)
    rw [hQA] at HR6g
    clear hQA
    rcases (show x % 2 = 0 ∨ x % 2 = 1 by omega) with hp | hp
    · have hpi : (x : Int) % 2 = 0 := by omega
      have HP := Lib.hid hp
      clear hp
      go_wp2_with (first
        | refine wpList_load_row rfl 62 (.tmp 6) rfl b6 rfl 62 QA (0, 0) _ HR6g.out Tryd.underlying62 rfl (by rw [HQZ.out.1]; exact size_rpos) ?_
        | refine wpList_store_row rfl 62 (.tmp 4) (.tmp 58) rfl b4 QA rfl rfl 62 _ HR4g.out (by rw [HQZ.out.1]; exact size_rpos) (by rw [HQZ.out.1]; rfl) HQZ.out.2 ?_)
      refine bodyPost_ret (v := .tuple #[.agg QA, .int .i64 1]) (results_cellt Tryd.results80 _ _ b4 _ QA (0, 0) _ rfl (setRow_heap _ _ _ _ _ _ HR4g.out) Tryd.underlying62 rfl (by rw [HQZ.out.1]; exact size_rpos)) rfl ⟨.slice none 0 0, by rw [HRES.out, HQA.out, HP.out]; rfl, ?_, below_setRow HBg.out (by have := HBS.out; have := HBB.out; omega) _⟩
      rw [HRES.out]
      exact Owns.nil encU_len _ _
    · have hpi : (x : Int) % 2 = 1 := by omega
      have HP := Lib.hid hp
      clear hp
      go_wp2_with (first
        | refine wpList_load_row rfl 62 (.tmp 6) rfl b6 rfl 62 QA (0, 0) _ HR6g.out Tryd.underlying62 rfl (by rw [HQZ.out.1]; exact size_rpos) ?_
        | refine wpList_store_row rfl 62 (.tmp 4) (.tmp 59) rfl b4 QA rfl rfl 62 _ HR4g.out (by rw [HQZ.out.1]; exact size_rpos) (by rw [HQZ.out.1]; rfl) HQZ.out.2 ?_)
      refine bodyPost_ret (v := .tuple #[.agg QA, .int .i64 0]) (results_cellt Tryd.results80 _ _ b4 _ QA (0, 0) _ rfl (setRow_heap _ _ _ _ _ _ HR4g.out) Tryd.underlying62 rfl (by rw [HQZ.out.1]; exact size_rpos)) rfl ⟨.slice none 0 0, by rw [HRES.out, HQA.out, HP.out]; rfl, ?_, below_setRow HBg.out (by have := HBS.out; have := HBB.out; omega) _⟩
      rw [HRES.out]
      exact Owns.nil encU_len _ _
end Go.Proofs.YtnbillhodbcfbaaDoor

/- The reference of chapter 15 over this seat's program: Solve. -/
namespace Go.Proofs.YtnbillhodbcfbaaDoor
open Go.RowKit Go.Shelf Go.Sort Go.Maps Go.WideMaps

/-- the best of some numbers, -1 where there are none -/
def bestZ (ns : Bool) (l : List Nat) : Int := if l = [] then -1 else (bestL ns l : Int)
theorem bestZ_snoc (ns : Bool) (l : List Nat) (x : Nat) : bestZ ns (l ++ [x]) = if bestZ ns l < 0 ∨ (ns = true ∧ bestZ ns l < (x : Int)) ∨ (ns = false ∧ (x : Int) < bestZ ns l) then (x : Int) else bestZ ns l := by
  have e1 : bestZ ns (l ++ [x]) = (bestL ns (l ++ [x]) : Int) := if_neg (by simp)
  rw [e1]
  rcases l with _ | ⟨y, l⟩
  · rw [if_pos (.inl (by show (-1 : Int) < 0; decide))]; rfl
  · have e2 : bestZ ns (y :: l) = (bestL ns (y :: l) : Int) := if_neg (by simp)
    rw [e2]
    obtain ⟨h1, h2⟩ := bestL_spec ns (l := y :: l) (by simp)
    generalize bestL ns (y :: l) = b at *
    have hx : ∀ {z : Nat}, z ∈ (y :: l) ++ [x] → z ∈ y :: l ∨ z = x := fun {z} hz => by
      rcases List.mem_append.1 hz with h | h
      · exact .inl h
      · exact .inr (List.mem_singleton.1 h)
    split
    · rename_i hc
      congr 1
      refine bestL_eq (by simp) fun z hz => ?_
      rcases hx hz with hz | rfl
      · have := h2 z hz
        unfold better at *
        cases ns
        · simp only [Bool.false_eq_true, if_false] at *
          rcases hc with h | h | h
          · omega
          · cases h.1
          · omega
        · simp only [if_true] at *
          rcases hc with h | h | h
          · omega
          · omega
          · cases h.1
      · unfold better; split <;> exact Nat.le_refl _
    · rename_i hc
      congr 1
      refine bestL_eq (List.mem_append_left _ h1) fun z hz => ?_
      rcases hx hz with hz | rfl
      · exact h2 z hz
      · unfold better
        cases ns
        · simp only [Bool.false_eq_true, if_false]
          rcases Nat.lt_or_ge z b with h | h
          · exact (hc (.inr (.inr ⟨rfl, by omega⟩))).elim
          · exact h
        · simp only [if_true]
          rcases Nat.lt_or_ge b z with h | h
          · exact (hc (.inr (.inl ⟨rfl, by omega⟩))).elim
          · exact h
theorem load_row_g {P : Program} {ops : Array Oper} {rest : List Oper} {o : Oper} {a : Act} {w : World} {Q : Exit → Act → World → Prop} (hw : Region.wanted o (yielded ops a.tmps) = true) (ty : TypeId) (x : Operand) (ho : o.op = .load ty x)
    (g : Nat) (hx : a.eval x = .pointer (some ⟨g, 0, none⟩)) (t : TypeId) (cs : Array Value) (fr : Nat × Nat) (d : TypeDesc) (hg : w.heap[g]? = some (.cells cs t fr))
    (hu : P.underlying ty = some d) (hd : (match d with | .struct _ | .array _ _ => true | _ => false) = true) (hi : (P.info? ty).map (·.size) = some cs.size)
    (h : wpList P ops Q rest (a.put o.dst (.agg cs)) w) : wpList P ops Q (o :: rest) a w :=
  BigFrame.wpList_want hw fun _ hK => wp_load_row ty x ho g hx t cs fr d hg hu hd hi (hK _ _ h)
/-- the values of the first k cards -/
def valsTo (t : Tb) (f : Nat → Nat) (k : Nat) : List Nat := ((List.range k).filter t.legal).map f
theorem valsTo_succ (t : Tb) (f : Nat → Nat) (k : Nat) : valsTo t f (k + 1) = if t.legal k then valsTo t f k ++ [f k] else valsTo t f k := by
  unfold valsTo
  rw [List.range_succ, List.filter_append, List.map_append]
  cases h : t.legal k <;> simp [h]
set_option maxHeartbeats 4000000 in
set_option maxRecDepth 10000 in
theorem dr_solve_step (t : Tb) (hk : TbOk t) (hu : Uniq t) (tr : Nat) (htr : tr < 256) (V : Nat → Nat) (hV : ∀ c, t.legal c = true → (t.put tr c).2 + V c ≤ 6)
    (hrec : ∀ c, t.legal c = true → ∀ W a cap, Byt W a (t.put tr c).1.cs.length (t.put tr c).1.cs → Calls Tryd.prog 60 #[.agg (posA (t.put tr c).1.h tr (t.put tr c).1.ld (.slice a (t.put tr c).1.cs.length cap))] W fun e w' => e = .returned (.int .i64 (V c : Int)) ∧ Below W.heap.size W w')
    (a : Option Addr) (cap : Nat) (w : World) (hz : Byt w a t.cs.length t.cs) :
    Calls Tryd.prog 60 #[.agg (posA t.h tr t.ld (.slice a t.cs.length cap))] w fun e w' => e = .returned (.int .i64 (bestL t.ns (t.cards.map fun c => (t.put tr c).2 + V c) : Int)) ∧ Below w.heap.size w w' := by
  have HLE := Lib.hid (fun c (hc : c < 256) W hzW => dr_Legal t.h tr t.ld t.cs a cap c hk.w64 (by have := hk.ld; omega) hc W hzW)
  have HAF := Lib.hid (fun c hl W hzW => dr_After t hk hu tr c htr hl a cap W hzW)
  have HTU := Lib.hid (fun W => dr_Turn t.h tr t.ld t.cs.length a cap (by have := hk.ld; omega) (by have := hk.pk.2; omega) W)
  have HRE := Lib.hid hrec
  have HV := Lib.hid hV
  have HPK := Lib.hid (fun c (hl : t.legal c = true) => ok_put hk (tr := tr) (show c < 52 from hk.pk.1 _ t.turn_lt _ (legal_iff.1 hl).1))
  have hturn : (t.ld + t.cs.length) % 4 = t.turn := rfl
  rw [hturn] at HTU
  obtain ⟨s, hs⟩ : ∃ s, t.turn = s := ⟨_, rfl⟩
  have HNS : Hid (t.ns = (s % 2 == 0)) := Lib.hid (by unfold Tb.ns; rw [hs])
  have hs4 : s < 4 := by rw [← hs]; exact t.turn_lt
  rw [hs] at HTU
  have HVA : Hid (t.cards.map (fun c => (t.put tr c).2 + V c) = valsTo t (fun c => (t.put tr c).2 + V c) 52) := Lib.hid rfl
  have HVS := Lib.hid (fun k => valsTo_succ t (fun c => (t.put tr c).2 + V c) k)
  have HYZ := Lib.hid hz
  obtain ⟨PA, hPA⟩ : ∃ A, posA t.h tr t.ld (.slice a t.cs.length cap) = A := ⟨_, rfl⟩
  have HPZ : Hid (PA.size = 7) := Lib.hid (by rw [← hPA]; rfl)
  have HCE : Hid (∀ W, Row W w.heap.size 62 PA → W.cell? ⟨w.heap.size, 0, none⟩ = some (.int .u64 (t.h 0 : Int)) ∧ W.cell? ⟨w.heap.size, 1, none⟩ = some (.int .u64 (t.h 1 : Int)) ∧ W.cell? ⟨w.heap.size, 2, none⟩ = some (.int .u64 (t.h 2 : Int)) ∧ W.cell? ⟨w.heap.size, 3, none⟩ = some (.int .u64 (t.h 3 : Int)) ∧ W.cell? ⟨w.heap.size, 4, none⟩ = some (.int .u8 (tr : Int)) ∧ W.cell? ⟨w.heap.size, 5, none⟩ = some (.int .u8 (t.ld : Int)) ∧ W.cell? ⟨w.heap.size, 6, none⟩ = some (.slice a t.cs.length cap)) := Lib.hid (by
    rw [← hPA]
    exact fun W h => ⟨h.cell 0, h.cell 1, h.cell 2, h.cell 3, h.cell 4, h.cell 5, h.cell 6⟩)
  have HTL := Lib.hid HTU.out
  unfold posA at HTL
  rw [hPA] at HLE HAF HTU ⊢
  have HR1 := Lib.hid (Row.new w 62 PA)
  have HB1 := Lib.hid ((Below.refl w.heap.size w).alloc (Nat.le_refl _) (.cells PA 62))
  clear hPA hz hrec hV hturn hs hk hu
  rw [HVA.out]
  go_enter Tryd.func60, Tryd.ntmps60
  go_upto_region 3 with fail
  generalize w.alloc (.cells PA 62) = w1 at *
  obtain ⟨b1, hb1⟩ : ∃ b, w.heap.size = b := ⟨_, rfl⟩
  have HBS := Lib.hid hb1
  rw [hb1] at HR1 HCE ⊢
  clear hb1
  go_wp2_with fail
  go_loopg [3, 4] 52 (fun g bv ci wr => ∃ (k : Nat) (B : Int), g = 52 - k ∧ k ≤ 52 ∧ ci = .int .i64 (k : Int) ∧ bv = .int .i64 B ∧ B = bestZ t.ns (valsTo t (fun c => (t.put tr c).2 + V c) k) ∧ Row wr b1 62 PA ∧ Below w.heap.size w wr)
  case atStart => exact ⟨0, -1, rfl, by omega, rfl, rfl, rfl, HR1.out, HB1.out⟩
  case round =>
    obtain ⟨k, B, rfl, hk, rfl, rfl, hB, hrow, hbl⟩ := hrel
    have HBE := Lib.hid hB
    have HRW := Lib.hid hrow
    have HBL := Lib.hid hbl
    clear hB hrow hbl
    by_cases hlt : k < 52
    · have hki : (k : Int) < 52 := by omega
      have HL1 := Lib.hid (HLE.out k (by omega) wr (HYZ.out.below (Nat.le_refl _) HBL.out))
      cases hleg : Tb.legal ⟨t.h, t.ld, t.cs⟩ k
      · rw [hleg] at HL1
        have HX : Hid (valsTo t (fun c => (t.put tr c).2 + V c) (k + 1) = valsTo t (fun c => (t.put tr c).2 + V c) k) := Lib.hid ((HVS.out k).trans (if_neg (by rw [show t.legal k = false from hleg]; exact Bool.false_ne_true)))
        clear hleg
        go_wp2_with (refine wpList_load_row rfl 62 (.tmp 1) rfl b1 rfl 62 PA (0, 0) _ HRW.out Tryd.underlying62 rfl (by rw [HPZ.out]; exact size_rpos) ?_)
        refine HL1.out.mono ?_
        rintro e w3 ⟨rfl, hb3⟩
        have HR3 := Lib.hid (HRW.out.later hb3)
        have HB3 := Lib.hid (HBL.out.trans (hb3.mono HBL.out.size))
        clear hb3
        go_wp2_with fail
        go_roundg (52 - (k + 1))
        case measure => omega
        case rel => exact ⟨k + 1, B, rfl, by omega, by simp, rfl, by rw [HX.out]; exact HBE.out, HR3.out, HB3.out⟩
      · rw [hleg] at HL1
        have HLG := Lib.hid (show t.legal k = true from hleg)
        clear hleg
        obtain ⟨⟨u, won⟩, hu⟩ : ∃ u, t.put tr k = u := ⟨_, rfl⟩
        have HU := Lib.hid hu
        obtain ⟨x, hx⟩ : ∃ x, V k = x := ⟨_, rfl⟩
        have hx6 : won + x ≤ 6 := by have := HV.out k HLG.out; rw [hu, hx] at this; exact this
        have HX : Hid (valsTo t (fun c => (t.put tr c).2 + V c) (k + 1) = valsTo t (fun c => (t.put tr c).2 + V c) k ++ [won + x]) := Lib.hid ((HVS.out k).trans ((if_pos HLG.out).trans (by rw [hu, hx])))
        have HAK := Lib.hid (HAF.out k HLG.out)
        have HRK := Lib.hid (HRE.out k HLG.out)
        have HOK := Lib.hid (HPK.out k HLG.out)
        rw [hu] at HAK HRK HOK
        rw [hx] at HRK
        clear hu hx
        go_wp2_with (refine wpList_load_row rfl 62 (.tmp 1) rfl b1 rfl 62 PA (0, 0) _ HRW.out Tryd.underlying62 rfl (by rw [HPZ.out]; exact size_rpos) ?_)
        refine HL1.out.mono ?_
        rintro e w3 ⟨rfl, hb3⟩
        have HR3 := Lib.hid (HRW.out.later hb3)
        have HB3 := Lib.hid (HBL.out.trans (hb3.mono HBL.out.size))
        clear hb3
        go_wp2_with (refine wpList_load_row rfl 62 (.tmp 1) rfl b1 rfl 62 PA (0, 0) _ HR3.out Tryd.underlying62 rfl (by rw [HPZ.out]; exact size_rpos) ?_)
        refine (HAK.out w3 (HYZ.out.below (Nat.le_refl _) HB3.out)).mono ?_
        rintro e w4 ⟨v, rfl, hov, hb4⟩
        have HR4 := Lib.hid (HR3.out.later hb4)
        have HB4 := Lib.hid (HB3.out.trans (hb4.mono HB3.out.size))
        obtain ⟨va, vc, e, -, -, -, -, hby⟩ := hov.byt (by have := HOK.out.pk.2; omega) fun i => by have := HOK.out.getD i; omega
        subst e
        have HBY := Lib.hid hby
        clear hb4 hov hby
        have HQZ : Hid ((posA u.h tr u.ld (.slice va u.cs.length vc)).size = 7 ∧ (posA u.h tr u.ld (.slice va u.cs.length vc)).all (·.oneCell') = true) := Lib.hid ⟨rfl, by simp [posA, Value.oneCell']⟩
        obtain ⟨QA, hQA⟩ : ∃ A, posA u.h tr u.ld (.slice va u.cs.length vc) = A := ⟨_, rfl⟩
        have HRC := Lib.hid (fun W h => HRK.out W va vc h)
        rw [hQA] at HQZ HRC ⊢
        clear hQA
        have HN5 := Lib.hid (Row.new w4 62 zeroP)
        have ha := below_setRow ((Below.refl w4.heap.size w4).alloc (Nat.le_refl _) (.cells zeroP 62)) (Nat.le_refl _) QA
        have hr : Row ((w4.alloc (.cells zeroP 62)).setRow w4.heap.size QA) w4.heap.size 62 QA := setRow_heap _ _ _ _ _ _ HN5.out
        have HR5 := Lib.hid (HR4.out.later ha)
        have HRq := Lib.hid hr
        have HB5 := Lib.hid (HB4.out.trans (ha.mono HB4.out.size))
        have HBY5 := Lib.hid (HBY.out.below (Nat.le_refl _) ha)
        clear ha hr
        go_upto_region 7 with (refine wpList_store_row rfl 62 (.tmp 5) (.tmp 20) rfl w4.heap.size QA rfl rfl 62 _ HN5.out (by rw [HQZ.out.1]; exact size_rpos) (by rw [HQZ.out.1]; rfl) HQZ.out.2 ?_)
        try dsimp only [Act.put]
        generalize (w4.alloc (.cells zeroP 62)).setRow w4.heap.size QA = w5 at *
        generalize w4.heap.size = b5 at *
        go_wp2_with (refine wpList_load_row rfl 62 (.tmp 5) rfl b5 rfl 62 QA (0, 0) _ HRq.out Tryd.underlying62 rfl (by rw [HQZ.out.1]; exact size_rpos) ?_)
        refine (HRC.out w5 HBY5.out).mono ?_
        rintro e w6 ⟨rfl, hb6⟩
        have HR6 := Lib.hid (HR5.out.later hb6)
        have HB6 := Lib.hid (HB5.out.trans (hb6.mono HB5.out.size))
        clear hb6 HRq HR5 HB5 HBY5 HBY HN5
        obtain ⟨y, hy⟩ : ∃ y, won + x = y := ⟨_, rfl⟩
        have hyi : (won : Int) + (x : Int) = (y : Int) := by omega
        rw [hy] at HX
        have hSN := bestZ_snoc t.ns (valsTo t (fun c => (t.put tr c).2 + V c) k) y
        rw [← HBE.out] at hSN
        have HSN : Hid (bestZ t.ns (valsTo t (fun c => (t.put tr c).2 + V c) (k + 1)) = if B < 0 ∨ (t.ns = true ∧ B < (y : Int)) ∨ (t.ns = false ∧ (y : Int) < B) then (y : Int) else B) := Lib.hid (by rw [HX.out]; exact hSN)
        clear hSN
        have hs0 : s % 2 = 0 → t.ns = true := fun e => by rw [HNS.out, e]; rfl
        have hs1 : s % 2 = 1 → t.ns = false := fun e => by rw [HNS.out, e]; rfl
        by_cases hB0 : B < 0
        · have HX2 : Hid (bestZ t.ns (valsTo t (fun c => (t.put tr c).2 + V c) (k + 1)) = (y : Int)) := Lib.hid (HSN.out.trans (if_pos (.inl hB0)))
          clear hs0 hs1
          go_wp2_with fail
          go_roundg (52 - (k + 1))
          case measure => omega
          case rel => exact ⟨k + 1, y, rfl, by omega, by simp, rfl, HX2.out.symm, HR6.out, HB6.out⟩
        · have hBd : decide (B < 0) = false := decide_eq_false hB0
          rcases (show s % 2 = 0 ∨ s % 2 = 1 by omega) with hp | hp
          · have hpi : (s : Int) % 2 = 0 := by omega
            have hns := hs0 hp
            clear hs0 hs1 hp
            by_cases hlt2 : B < (y : Int)
            · have HX2 : Hid (bestZ t.ns (valsTo t (fun c => (t.put tr c).2 + V c) (k + 1)) = (y : Int)) := Lib.hid (HSN.out.trans (if_pos (.inr (.inl ⟨hns, hlt2⟩))))
              have hbd2 := decide_eq_true hlt2
              clear hns hB0 hlt2
              obtain ⟨d0, d1, d2, d3, d4, d5, d6⟩ := HCE.out _ HR6.out
              go_wp2_with fail
              refine (HTL.out _).mono ?_
              rintro e w7 ⟨rfl, hb7⟩
              have HR7 := Lib.hid (HR6.out.later hb7)
              have HB7 := Lib.hid (HB6.out.trans (hb7.mono HB6.out.size))
              clear hb7 d0 d1 d2 d3 d4 d5 d6
              go_wp2_with fail
              go_roundg (52 - (k + 1))
              case measure => omega
              case rel => exact ⟨k + 1, y, rfl, by omega, by simp, rfl, HX2.out.symm, HR7.out, HB7.out⟩
            · have HX2 : Hid (bestZ t.ns (valsTo t (fun c => (t.put tr c).2 + V c) (k + 1)) = B) := Lib.hid (HSN.out.trans (if_neg (by rw [hns]; rintro (h | h | h); exact hB0 h; exact hlt2 h.2; cases h.1)))
              have hbd2 : decide (B < (y : Int)) = false := decide_eq_false hlt2
              clear hns hB0 hlt2
              obtain ⟨d0, d1, d2, d3, d4, d5, d6⟩ := HCE.out _ HR6.out
              go_wp2_with fail
              refine (HTL.out _).mono ?_
              rintro e w7 ⟨rfl, hb7⟩
              have HR7 := Lib.hid (HR6.out.later hb7)
              have HB7 := Lib.hid (HB6.out.trans (hb7.mono HB6.out.size))
              clear hb7 d0 d1 d2 d3 d4 d5 d6
              obtain ⟨d0, d1, d2, d3, d4, d5, d6⟩ := HCE.out _ HR7.out
              go_wp2_with fail
              refine (HTL.out _).mono ?_
              rintro e w8 ⟨rfl, hb8⟩
              have HR8 := Lib.hid (HR7.out.later hb8)
              have HB8 := Lib.hid (HB7.out.trans (hb8.mono HB7.out.size))
              clear hb8 d0 d1 d2 d3 d4 d5 d6
              go_wp2_with fail
              go_roundg (52 - (k + 1))
              case measure => omega
              case rel => exact ⟨k + 1, B, rfl, by omega, by simp, rfl, HX2.out.symm, HR8.out, HB8.out⟩
          · have hpi : (s : Int) % 2 = 1 := by omega
            have hns := hs1 hp
            clear hs0 hs1 hp
            by_cases hlt2 : (y : Int) < B
            · have HX2 : Hid (bestZ t.ns (valsTo t (fun c => (t.put tr c).2 + V c) (k + 1)) = (y : Int)) := Lib.hid (HSN.out.trans (if_pos (.inr (.inr ⟨hns, hlt2⟩))))
              have hbd2 := decide_eq_true hlt2
              clear hns hB0 hlt2
              obtain ⟨d0, d1, d2, d3, d4, d5, d6⟩ := HCE.out _ HR6.out
              go_wp2_with fail
              refine (HTL.out _).mono ?_
              rintro e w7 ⟨rfl, hb7⟩
              have HR7 := Lib.hid (HR6.out.later hb7)
              have HB7 := Lib.hid (HB6.out.trans (hb7.mono HB6.out.size))
              clear hb7 d0 d1 d2 d3 d4 d5 d6
              obtain ⟨d0, d1, d2, d3, d4, d5, d6⟩ := HCE.out _ HR7.out
              go_wp2_with fail
              refine (HTL.out _).mono ?_
              rintro e w8 ⟨rfl, hb8⟩
              have HR8 := Lib.hid (HR7.out.later hb8)
              have HB8 := Lib.hid (HB7.out.trans (hb8.mono HB7.out.size))
              clear hb8 d0 d1 d2 d3 d4 d5 d6
              go_wp2_with fail
              go_roundg (52 - (k + 1))
              case measure => omega
              case rel => exact ⟨k + 1, y, rfl, by omega, by simp, rfl, HX2.out.symm, HR8.out, HB8.out⟩
            · have HX2 : Hid (bestZ t.ns (valsTo t (fun c => (t.put tr c).2 + V c) (k + 1)) = B) := Lib.hid (HSN.out.trans (if_neg (by rw [hns]; rintro (h | h | h); exact hB0 h; cases h.1; exact hlt2 h.2)))
              have hbd2 : decide ((y : Int) < B) = false := decide_eq_false hlt2
              clear hns hB0 hlt2
              obtain ⟨d0, d1, d2, d3, d4, d5, d6⟩ := HCE.out _ HR6.out
              go_wp2_with fail
              refine (HTL.out _).mono ?_
              rintro e w7 ⟨rfl, hb7⟩
              have HR7 := Lib.hid (HR6.out.later hb7)
              have HB7 := Lib.hid (HB6.out.trans (hb7.mono HB6.out.size))
              clear hb7 d0 d1 d2 d3 d4 d5 d6
              obtain ⟨d0, d1, d2, d3, d4, d5, d6⟩ := HCE.out _ HR7.out
              go_wp2_with fail
              refine (HTL.out _).mono ?_
              rintro e w8 ⟨rfl, hb8⟩
              have HR8 := Lib.hid (HR7.out.later hb8)
              have HB8 := Lib.hid (HB7.out.trans (hb8.mono HB7.out.size))
              clear hb8 d0 d1 d2 d3 d4 d5 d6
              go_wp2_with fail
              go_roundg (52 - (k + 1))
              case measure => omega
              case rel => exact ⟨k + 1, B, rfl, by omega, by simp, rfl, HX2.out.symm, HR8.out, HB8.out⟩
    · obtain rfl : k = 52 := by omega
      simp only [show ((52 : Nat) : Int) = 52 from rfl]
      have HBX := Lib.hid (show (valsTo t (fun c => (t.put tr c).2 + V c) 52 = [] ∧ B = -1) ∨ B = (bestL t.ns (valsTo t (fun c => (t.put tr c).2 + V c) 52) : Int) from by
        rw [HBE.out]
        unfold bestZ
        split
        · rename_i h; exact .inl ⟨h, rfl⟩
        · exact .inr rfl)
      rcases HBX.out with ⟨he, hB⟩ | hB
      · have HE := Lib.hid he
        have hB0 : B < 0 := by omega
        clear he hB
        go_wp2_with fail
        go_ret
        exact ⟨by rw [HE.out]; rfl, HBL.out⟩
      · have HE := Lib.hid hB
        have hB0 : ¬ B < 0 := by omega
        clear hB
        go_wp2_with fail
        go_ret
        exact ⟨by rw [← HE.out]; rfl, HBL.out⟩
theorem pop_some {m c : Nat} (hc : c < 64) (hb : m.testBit c = true) : 0 < pop m := by
  have := pop_landn m c hc hb
  omega
/-- the reference's Solve -/
theorem dr_Solve (tr : Nat) (htr : tr < 256) : ∀ (m q : Nat) (t : Tb), PosT q t → m + t.cs.length = 4 * q → ∀ (a : Option Addr) (cap : Nat) (w : World), Byt w a t.cs.length t.cs →
    Calls Tryd.prog 60 #[.agg (posA t.h tr t.ld (.slice a t.cs.length cap))] w fun e w' => e = .returned (.int .i64 (val tr m t : Int)) ∧ Below w.heap.size w w'
  | 0, q, t, H, hm, a, cap, w, hz => by
    have hl := H.ok.pk.2
    obtain rfl : q = 0 := by omega
    have hno : ∀ c, t.legal c = true → False := fun c hc => by
      have h1 := (legal_iff.1 hc).1
      have h2 := H.evn.turn hl
      have h3 := pop_some (show c < 64 from by have := H.ok.pk.1 _ t.turn_lt _ h1; omega) h1
      have h4 : pop (t.h t.turn) = 0 := h2
      omega
    have hc : t.cards = [] := List.filter_eq_nil_iff.2 fun c _ hh => hno c hh
    have := dr_solve_step t H.ok H.uniq tr htr (fun _ => 0) (fun c hh => (hno c hh).elim) (fun c hh => (hno c hh).elim) a cap w hz
    rw [hc] at this
    exact this
  | m + 1, q, t, H, hm, a, cap, w, hz => by
    have hl := H.ok.pk.2
    have hmem : ∀ c, t.legal c = true → c ∈ t.cards := fun c hc => mem_cards.2 ⟨H.ok.pk.1 _ t.turn_lt _ (legal_iff.1 hc).1, hc⟩
    refine dr_solve_step t H.ok H.uniq tr htr (fun c => val tr m (t.put tr c).1) (fun c hc => ?_) (fun c hc W a cap hzW => ?_) a cap w hz
    · have h1 := (legal_iff.1 hc).1
      have := worth_le tr m q hl H.evn (by omega) (show c < 64 from by have := H.ok.pk.1 _ t.turn_lt _ h1; omega) h1
      have h6 := H.q6
      have e : worth tr m t c = (t.put tr c).2 + val tr m (t.put tr c).1 := rfl
      omega
    · obtain ⟨q', hp, -, -, hmq⟩ := H.put tr (hmem c hc)
      exact dr_Solve tr htr m q' _ hp (hmq m hm) a cap W hzW
end Go.Proofs.YtnbillhodbcfbaaDoor

/- Bytes as strings, deals compared, appends: what the laws of chapter 16 share with those of 15. -/
namespace Go.Proofs.YtnbillhodbcfbaaDoor
open Go.RowKit Go.Shelf Go.Sort Go.Maps Go.WideMaps

theorem eqItems_refl {P : Program} (d : Nat) (e : TypeId) (c : Nat) (xs : Array Value) : ∀ (is : List Nat), (∀ i ∈ is, ∀ w, ∃ v, Sem.run P (part e xs (i * c)) w = .ok v w ∧ Sem.run P (Op.equalIn d e v v) w = .ok true w) → ∀ w, Sem.run P (Op.eqItems d e c xs xs is) w = .ok true w
  | [], _, w => by simp [Op.eqItems]
  | i :: is, h, w => by
    obtain ⟨v, h1, h2⟩ := h i (List.mem_cons_self ..) w
    have ih := eqItems_refl d e c xs is (fun j hj => h j (List.mem_cons_of_mem _ hj)) w
    rw [Op.eqItems, Sem.run_bind, h1, Result.andThen_ok, Sem.run_bind, h1, Result.andThen_ok, Sem.run_bind, h2, Result.andThen_ok]
    simpa using ih
/-- a list of bytes as a string -/
def strN (zs : List Nat) : ByteArray := strOfNums (zs.map fun n : Nat => (n : Int))
theorem byt_string {w : World} {a : Option Addr} {len : Nat} {zs : List Nat} (h : Byt w a len zs) (cap : Nat) (src dst e : TypeId) (hs : Tryd.prog.underlying src = some (.slice e)) (he : Tryd.prog.underlying e = some (.int .u8)) (hd : Tryd.prog.underlying dst = some .string) :
    (convert src dst (.slice a len cap)).run Tryd.prog w = .ok (.string (strN zs)) w := by
  by_cases h0 : len = 0
  · subst h0
    obtain rfl : zs = [] := List.eq_nil_of_length_eq_zero h.length
    cases a with
    | none => exact run_convert_bytes_nil w src e hs he 0 cap dst hd
    | some a =>
      have hl : (loadCells a 0).run Tryd.prog w = .ok (([] : List Int).map (Value.int .u8)).toArray w := by
        have := run_loadCells_list (P := Tryd.prog) w a [] (fun j v hj => by simp at hj)
        simpa using this
      rw [run_convert_bytes_string w src dst e _ 0 cap hs he hd, run_bytesToString w _ 0 cap [] hl]
      rfl
  · obtain ⟨b, off, rfl, hb, hc⟩ := h.at (by omega)
    refine run_convert_bytes_arg w src e hs he b off len cap (zs.map fun n : Nat => (n : Int)) (by rw [List.length_map]; exact h.length) (fun i hi => ?_) dst hd
    rw [hc i hi]
    have hl := h.length
    rw [List.getD_eq_getElem?_getD, List.getD_eq_getElem?_getD, List.getElem?_map, List.getElem?_eq_getElem (by omega)]
    rfl
theorem eq_dealR (h : Nat → Nat) (w : World) : Sem.run Tryd.prog (Op.equalIn 10000 24 (.agg #[.int .u64 (h 0 : Int), .int .u64 (h 1 : Int), .int .u64 (h 2 : Int), .int .u64 (h 3 : Int)]) (.agg #[.int .u64 (h 0 : Int), .int .u64 (h 1 : Int), .int .u64 (h 2 : Int), .int .u64 (h 3 : Int)])) w = .ok true w := by
  obtain ⟨i, hi⟩ : ∃ i, Tryd.prog.info? 22 = some i := by
    have h : (Tryd.prog.info? 22).isSome = true := by kernel_rfl
    exact Option.isSome_iff_exists.1 h
  rw [run_equalIn_array (P := Tryd.prog) w 9999 _ _ Tryd.underlying24 hi]
  have kc : Tryd.prog.cellsOf 22 = 1 := by kernel_rfl
  rw [kc]
  refine eqItems_refl _ _ _ _ _ (fun i hi w => ?_) w
  have he := fun z => run_equalIn_int (P := Tryd.prog) w 9998 22 .u64 .u64 z z Tryd.underlying22
  simp only [beq_self_eq_true] at he
  have hi2 : i < 4 := List.mem_range.1 hi
  rcases (show i = 0 ∨ i = 1 ∨ i = 2 ∨ i = 3 by omega) with rfl | rfl | rfl | rfl
  · exact ⟨.int .u64 (h 0 : Int), by kernel_rfl, he _⟩
  · exact ⟨.int .u64 (h 1 : Int), by kernel_rfl, he _⟩
  · exact ⟨.int .u64 (h 2 : Int), by kernel_rfl, he _⟩
  · exact ⟨.int .u64 (h 3 : Int), by kernel_rfl, he _⟩
/-- append(v, src...), v the call's own, src any slice of bytes, as an operation -/
theorem ok_appB {o : Oper} {ρ : Operand → Value} {w : World} {R : Value → World → Prop} (s x : Operand)
    (ho : o.op = .call { callee := .builtin .append, args := #[s, x], argTypes := #[25, 25] })
    (base : Nat) (v : Value) (zs ys : List Nat) (hs : ρ s = v) (hown : OwnU w base v zs) (ad : Option Addr) (m c : Nat) (hx : ρ x = .slice ad m c) (hy : Byt w ad m ys)
    (hbytes : zs.length + m ≤ 140737488355328) (hbase : base ≤ w.heap.size)
    (h : ∀ v' w', OwnU w' base v' (zs ++ ys) → w.grownBy w' v.ownBlock → (v'.ownBlock = v.ownBlock ∨ v'.ownBlock = some w.heap.size) → R v' w') : OpOk Tryd.prog o ρ w R := by
  by_cases hm : m = 0
  · subst hm
    obtain rfl : ys = [] := List.eq_nil_of_length_eq_zero hy.length
    obtain ⟨i0, hi, hz0, hz1, hz2⟩ := info_parts info_u8'
    rcases hown.form with ⟨rfl, rfl⟩ | ⟨g, cap, rfl, h1, h2, h3, h4⟩
    · have hr := run_append_nothing (P := Tryd.prog) w 25 25 o.type 5 i0 Tryd.underlying25 hi none 0 0 (Nat.le_refl _) (.slice ad 0 c) (src_empty Tryd.underlying25 ad c w)
      refine ok_value (v := .slice none 0 0) (w' := w) ?_ (h _ w (by rw [List.append_nil]; exact hown) ⟨rfl, rfl, rfl, Nat.le_refl _, fun _ _ _ => rfl⟩ (.inl rfl))
      unfold execOp
      simp only [ho, resolve, invoke, builtin, Sem.run_bind, Sem.run_pure, Result.andThen_ok, List.map_toArray, List.map_cons, List.map_nil, hs, hx, hr]
    · have hr := run_append_nothing (P := Tryd.prog) w 25 25 o.type 5 i0 Tryd.underlying25 hi (some ⟨g, 0, none⟩) zs.length cap h3 (.slice ad 0 c) (src_empty Tryd.underlying25 ad c w)
      refine ok_value (v := .slice (some ⟨g, 0, none⟩) zs.length cap) (w' := w) ?_ (h _ w (by rw [List.append_nil]; exact hown) ⟨rfl, rfl, rfl, Nat.le_refl _, fun _ _ _ => rfl⟩ (.inl rfl))
      unfold execOp
      simp only [ho, resolve, invoke, builtin, Sem.run_bind, Sem.run_pure, Result.andThen_ok, List.map_toArray, List.map_cons, List.map_nil, hs, hx, hr]
  · obtain ⟨b, off, rfl, -, -⟩ := hy.at (by omega)
    obtain ⟨i0, hi, hz0, hz1, hz2⟩ := info_parts info_u8'
    have hl := hy.length
    obtain ⟨v', w', hr, h1, h3, h5, h4⟩ := run_append_own_at (P := Tryd.prog) (w := w) base 25 o.type 5 i0 (.int .u8 0) 1 1 Tryd.underlying25 hi hz0 hz1 hz2 rfl (by decide) v zs.length (zs.flatMap encU) hown.2 ⟨b, off, none⟩ m c (ys.flatMap encU) (by rw [flatU_len]; omega) (byt_row hy ⟨b, off, none⟩ rfl) (flatU_one ys) (by unfold maxLen; omega) (by omega) hbase
    refine ok_value (v := v') (w' := w') ?_ (h v' w' ⟨encU_len, ?_⟩ h3 h4)
    · unfold execOp
      simp only [ho, resolve, invoke, builtin, Sem.run_bind, Sem.run_pure, Result.andThen_ok, List.map_toArray, List.map_cons, List.map_nil, hs, hx, hr]
    · rw [List.length_append, List.flatMap_append, hl]
      exact h1
end Go.Proofs.YtnbillhodbcfbaaDoor
