/- Rq0, RqA, RqB in one text. -/
import Derived.Test.YtginbellakkliaaDoorMRp
import Derived.Test.YtginbellakkliaaDoorMPyr
import Derived.Test.YtginbellakkliaaDoorPyEo
import Derived.Test.YtginbellakkliaaDoorPyLs
import Derived.Test.YtginbellakkliaaDoorLdW
import Derived.Deep.AppendSrc
import Derived.Deep.Upon
import Derived.Laws.Rows
import Derived.BigFrame
import Derived.Deep.LoopGhost

/- Helpers for the reference of chapter 12: whole rows read, appends of own bytes. -/
namespace Go.Proofs.YtginbellakkliaaDoor
open Go.RowKit Go.Shelf Go.Sort Go.Maps Go.WideMaps
attribute [local go_sem] Oper.semAt_some

theorem load_row_g {P : Program} {ops : Array Oper} {rest : List Oper} {o : Oper} {a : Act} {w : World} {Q : Exit → Act → World → Prop} (hw : Region.wanted o (yielded ops a.tmps) = true) (ty : TypeId) (x : Operand) (ho : o.op = .load ty x)
    (g : Nat) (hx : a.eval x = .pointer (some ⟨g, 0, none⟩)) (t : TypeId) (cs : Array Value) (fr : Nat × Nat) (d : TypeDesc) (hg : w.heap[g]? = some (.cells cs t fr))
    (hu : P.underlying ty = some d) (hd : (match d with | .struct _ | .array _ _ => true | _ => false) = true) (hi : (P.info? ty).map (·.size) = some cs.size)
    (h : wpList P ops Q rest (a.put o.dst (.agg cs)) w) : wpList P ops Q (o :: rest) a w :=
  BigFrame.wpList_want hw fun _ hK => wp_load_row ty x ho g hx t cs fr d hg hu hd hi (hK _ _ h)
theorem quiet_row {P : Program} {ops : Array Oper} {C : World → Prop} {Q : Act → Prop} {a : Act} {o : Oper} {rest : List Oper} (hgd : o.guard = none) (ty : TypeId) (x : Operand) (ho : o.op = .load ty x) (g : Nat) (hx : a.eval x = .pointer (some ⟨g, 0, none⟩)) {t : TypeId} {cs : Array Value} {d : TypeDesc}
    (hg : ∀ w', C w' → Row w' g t cs) (hu : P.underlying ty = some d) (hd : (match d with | .struct _ | .array _ _ => true | _ => false) = true) (hi : (P.info? ty).map (·.size) = some cs.size) (h : wpQuiet P ops C Q rest (a.put o.dst (.agg cs))) : wpQuiet P ops C Q (o :: rest) a := by
  refine BigFrame.wpQuiet_want (by simp [Region.wanted, hgd]) fun K hK => ⟨.agg cs, fun w hw => ?_, hK _ h⟩
  unfold Oper.quietAt
  rw [exec_load_row ty x ho g hx (hg w hw) hu hd hi]
  exact ⟨rfl, rfl⟩
theorem quiet_rowC {P : Program} {ops : Array Oper} {C : World → Prop} {Q : Act → Prop} {a : Act} {o : Oper} {rest : List Oper} (hw : Region.wanted o (yielded ops a.tmps) = true) (ty : TypeId) (x : Operand) (ho : o.op = .load ty x) (g : Nat) (hx : a.eval x = .pointer (some ⟨g, 0, none⟩)) {t : TypeId} {cs : Array Value} {d : TypeDesc}
    (hg : ∀ w', C w' → Row w' g t cs) (hu : P.underlying ty = some d) (hd : (match d with | .struct _ | .array _ _ => true | _ => false) = true) (hi : (P.info? ty).map (·.size) = some cs.size) (h : wpQuiet P ops C Q rest (a.put o.dst (.agg cs))) : wpQuiet P ops C Q (o :: rest) a := by
  refine BigFrame.wpQuiet_want hw fun K hK => ⟨.agg cs, fun w hw => ?_, hK _ h⟩
  unfold Oper.quietAt
  rw [exec_load_row ty x ho g hx (hg w hw) hu hd hi]
  exact ⟨rfl, rfl⟩
theorem src_empty {P : Program} {size : Nat} {t e : TypeId} (ht : P.underlying t = some (.slice e)) (a : Option Addr) (c : Nat) (w : World) : Src P size t (.slice a 0 c) 0 [] w := by
  cases a with
  | none => exact Src.ofNil w ht c
  | some a => exact Src.ofSlice w ht a 0 c [] (by simp) (fun j u h => by simp at h) (fun u h => by simp at h)
/-- append(v, src...), v the call's own, src any slice of bytes -/
theorem appB {w : World} {ops : Array Oper} {rest : List Oper} {o : Oper} {a : Act} {Q : Exit → Act → World → Prop} (hgd : o.guard = none) (s x : Operand)
    (ho : o.op = .call { callee := .builtin .append, args := #[s, x], argTypes := #[22, 22] })
    (base : Nat) (v : Value) (zs ys : List Nat) (hs : a.eval s = v) (hown : OwnU w base v zs) (ad : Option Addr) (m c : Nat) (hx : a.eval x = .slice ad m c) (hy : Byt w ad m ys)
    (hbytes : zs.length + m ≤ 140737488355328) (hbase : base ≤ w.heap.size)
    (h : ∀ v' w', OwnU w' base v' (zs ++ ys) → Below base w w' → w.grownBy w' v.ownBlock → (v'.ownBlock = v.ownBlock ∨ v'.ownBlock = some w.heap.size) → wpList Tryd.prog ops Q rest (a.put o.dst v') w') : wpList Tryd.prog ops Q (o :: rest) a w := by
  by_cases hm : m = 0
  · subst hm
    obtain rfl : ys = [] := List.eq_nil_of_length_eq_zero hy.length
    obtain ⟨i0, hi, hz0, hz1, hz2⟩ := info_parts info_u8'
    rcases hown.form with ⟨rfl, rfl⟩ | ⟨g, cap, rfl, h1, h2, h3, h4⟩
    · refine wpList_plain hgd fun K hK => ?_
      have hr := run_append_nothing (P := Tryd.prog) w 22 22 o.type 5 i0 Tryd.underlying22 hi (none) 0 0 (Nat.le_refl _) (.slice ad 0 c) (src_empty Tryd.underlying22 ad c w)
      unfold Oper.wp execOp
      simp only [ho, resolve, invoke, builtin, Sem.run_bind, Sem.run_pure, Result.andThen_ok, List.map_toArray, List.map_cons, List.map_nil, hs, hx, hr]
      exact hK _ _ (h _ w (by rw [List.append_nil]; exact hown) (Below.refl _ _) ⟨rfl, rfl, rfl, Nat.le_refl _, fun _ _ _ => rfl⟩ (.inl rfl))
    · refine wpList_plain hgd fun K hK => ?_
      have hr := run_append_nothing (P := Tryd.prog) w 22 22 o.type 5 i0 Tryd.underlying22 hi (some ⟨g, 0, none⟩) zs.length cap h3 (.slice ad 0 c) (src_empty Tryd.underlying22 ad c w)
      unfold Oper.wp execOp
      simp only [ho, resolve, invoke, builtin, Sem.run_bind, Sem.run_pure, Result.andThen_ok, List.map_toArray, List.map_cons, List.map_nil, hs, hx, hr]
      exact hK _ _ (h _ w (by rw [List.append_nil]; exact hown) (Below.refl _ _) ⟨rfl, rfl, rfl, Nat.le_refl _, fun _ _ _ => rfl⟩ (.inl rfl))
  · obtain ⟨b, off, rfl, -, -⟩ := hy.at (by omega)
    exact appU hgd s x ho base v zs ys hs hown _ m c hx hy hbytes hbase h
theorem results_cellt {P : Program} {fn : Func} {p q : Tmp} {ty : TypeId} (h : fn.results = #[.cell p ty, .tmp q]) (tmps : Array Value) (w : World) (g : Nat) (t : TypeId) (cs : Array Value) (fr : Nat × Nat) (d : TypeDesc)
    (hp : tmps.getD p undef = .pointer (some ⟨g, 0, none⟩)) (hg : w.heap[g]? = some (.cells cs t fr))
    (hu : P.underlying ty = some d) (hd : (match d with | .struct _ | .array _ _ => true | _ => false) = true) (hi : (P.info? ty).map (·.size) = some cs.size) :
    (results fn tmps).run P w = .ok (.tuple #[.agg cs, tmps.getD q undef]) w := by
  have hp' : tmps[p]?.getD undef = .pointer (some ⟨g, 0, none⟩) := by simpa using hp
  simp [results, h, hp', asAddr, run_loadVar_row w g t ty cs fr d hg hu hd hi]
end Go.Proofs.YtginbellakkliaaDoor

/- The reference of chapter 12 over this seat's program: count, Leader, Over; slices of bytes. -/
namespace Go.Proofs.YtginbellakkliaaDoor
open Go.RowKit Go.Shelf Go.Sort Go.Maps Go.WideMaps

/-- a play of the reference -/
structure Rp where
  d : Nat → Nat
  lv : Nat
  dn : Nat
  rk : Nat
  dc : Nat
  cs : List Nat
abbrev Rp.cells (r : Rp) (vc vb : Value) : Array Value := #[.int .u64 (r.d 0 : Int), .int .u64 (r.d 1 : Int), .int .u64 (r.d 2 : Int), .int .u64 (r.d 3 : Int), .int .u8 (r.lv : Int), .int .u8 (r.dn : Int), .int .u8 (r.rk : Int), .int .u8 (r.dc : Int), vc, vb]
structure Rp.ok (r : Rp) : Prop where
  d : ∀ j, W64 (r.d j)
  lv : 1 ≤ r.lv ∧ r.lv ≤ 7
  dn : r.dn ≤ 4
  rk : r.rk ≤ 2
  dc : r.dc ≤ 3
  len : r.cs.length ≤ 52
/-- who leads to the k-th trick -/
def Rp.ldr (r : Rp) : Nat → Nat
  | 0 => (r.dc + 1) % 4
  | k + 1 => (seatV r.dn (r.ldr k) ((r.cs.drop (4 * k)).take 4)).1
theorem Rp.ldr_lt (r : Rp) : ∀ k, r.ldr k < 4
  | 0 => Nat.mod_lt _ (by decide)
  | k + 1 => seatV_lt _ _ _
def Rp.over (r : Rp) : Bool := r.cs.length == 4 * pop (r.d 0)
def Rp.turn (r : Rp) : Nat × Nat := if r.over then (0, 121) else ((r.ldr (r.cs.length / 4) + r.cs.length % 4) % 4, 0)
theorem cnt_leR (m : Nat) : ∀ k, cnt m k ≤ k
  | 0 => Nat.le_refl _
  | k + 1 => by have := cnt_leR m k; rw [cnt]; cases m.testBit k <;> simp <;> omega
theorem rq_count (m : Nat) (hm : W64 m) (w : World) :
    Calls Tryd.prog 80 #[.int .u64 (m : Int)] w fun e w' => e = .returned (.int .i64 (pop m : Int)) ∧ w = w' := by
  have HM := Lib.hid hm
  clear hm
  go_enter Tryd.func80, Tryd.ntmps80
  go_wp2
  go_loop [0, 3, 4] (fun v n c => ∃ k q : Nat, k ≤ 64 ∧ q = m / 2 ^ k ∧ v = .int .u64 (q : Int) ∧ c = .int .i64 (k : Int) ∧ n = .int .i64 (cnt m k : Int)) (fun _ _ c => 64 - (intOf c).toNat)
  case atStart => exact ⟨0, m, by omega, by simp, rfl, rfl, rfl⟩
  case round =>
    obtain ⟨k, q, hk, hq, rfl, rfl, rfl⟩ := hrel
    have HQ := Lib.hid hq
    clear hq
    by_cases hlt : k < 64
    · have hle := cnt_leR m k
      have HS : Hid (cnt m (k + 1) = cnt m k + q % 2) := Lib.hid (by
        rw [cnt, Nat.testBit_eq_decide_div_mod_eq, ← HQ.out]
        rcases Nat.mod_two_eq_zero_or_one q with h | h <;> simp [h])
      have HQ2 : Hid (q / 2 = m / 2 ^ (k + 1)) := Lib.hid (by rw [HQ.out, Nat.div_div_eq_div_mul, Nat.pow_succ])
      generalize cnt m k = n at *
      obtain ⟨b, hb⟩ : ∃ b, q % 2 = b := ⟨_, rfl⟩
      obtain ⟨q2, hq2⟩ : ∃ b, q / 2 = b := ⟨_, rfl⟩
      have hb1 : b ≤ 1 := by omega
      have e1 : (q : Int).tmod 2 = (b : Int) := by rw [Int.tmod_eq_emod_of_nonneg (by omega)]; omega
      have e1' : (q : Int) % 2 = (b : Int) := by omega
      have e2 : (q : Int).tdiv 2 = (q2 : Int) := by rw [Int.tdiv_eq_ediv_of_nonneg (by omega)]; omega
      have e2' : (q : Int) / 2 = (q2 : Int) := by omega
      have e3 : IntKind.i64.wrap (b : Int) = (b : Int) := by rw [IntKind.wrap_i64]; omega
      have HW2 : Hid (IntKind.u64.wrap (q2 : Int) = (q2 : Int)) := Lib.hid (by have h1 := Nat.div_le_self m (2 ^ k); rw [← HQ.out] at h1; have h2 := HM.out; unfold W64 at h2; rw [IntKind.wrap_u64]; omega)
      rw [hb] at HS
      rw [hq2] at HQ2
      clear hb hq2
      go_wp2
      go_round
      case rel => exact ⟨k + 1, q2, by omega, HQ2.out, by rw [HW2.out], by go_num, by rw [HS.out]; go_num⟩
      case measure => simp [intOf]; omega
    · have : k = 64 := by omega
      subst this
      go_wp2
      go_ret
      exact ⟨rfl, rfl⟩
theorem rq_Seat9 (dc : Nat) (h : dc ≤ 3) (w : World) :
    Calls Tryd.prog 79 #[.int .u8 (dc : Int), .int .i64 1] w fun e w' => e = .returned (.int .u8 (((dc + 1) % 4 : Nat) : Int)) ∧ w = w' := by
  obtain ⟨x, hx⟩ : ∃ x, (dc + 1) % 4 = x := ⟨_, rfl⟩
  rw [hx]
  have e1 : ((dc : Int) + 1).tmod 4 = (x : Int) := by rw [Int.tmod_eq_emod_of_nonneg (by omega)]; omega
  have e2 : ((dc : Int) + 1) % 4 = (x : Int) := by omega
  have e3 : IntKind.u8.wrap (x : Int) = (x : Int) := by rw [IntKind.wrap_u8]; omega
  clear hx
  go_enter Tryd.func79, Tryd.ntmps79
  go_wp2
  go_ret
  exact ⟨rfl, rfl⟩
theorem rq_Leader (lv dn rk dc : Nat) (w : World) :
    Calls Tryd.prog 57 #[.agg #[.int .u8 (lv : Int), .int .u8 (dn : Int), .int .u8 (rk : Int), .int .u8 (dc : Int)]] w fun e w' => e = .returned (.tuple #[.int .u8 ((leadV lv dn rk dc).1 : Int), .int .i64 ((leadV lv dn rk dc).2 : Int)]) ∧ Below w.heap.size w w' := by
  have hb : ∀ o, Below w.heap.size w (w.alloc o) := fun o => (Below.refl _ _).alloc (Nat.le_refl _) o
  unfold leadV
  by_cases h0 : lv = 0
  · subst h0
    go_enter Tryd.func57, Tryd.ntmps57
    go_wp2_with fail
    go_ret2
    exact ⟨rfl, hb _⟩
  rw [if_neg h0]
  have b0 : ((lv : Int) == 0) = false := by rw [beq_eq_false_iff_ne]; omega
  rcases Nat.lt_or_ge 7 lv with h1 | h1
  · rw [if_neg (fun h => absurd h.1 (by omega))]
    have b1 : decide ((lv : Int) > 7) = true := by rw [decide_eq_true_eq]; omega
    go_enter Tryd.func57, Tryd.ntmps57
    go_wp2_with fail
    go_ret2
    exact ⟨rfl, hb _⟩
  have b1 : decide ((lv : Int) > 7) = false := by rw [decide_eq_false_iff_not]; omega
  rcases Nat.lt_or_ge 4 dn with h2 | h2
  · rw [if_neg (fun h => absurd h.2.1 (by omega))]
    have b2 : decide ((dn : Int) > 4) = true := by rw [decide_eq_true_eq]; omega
    go_enter Tryd.func57, Tryd.ntmps57
    go_wp2_with fail
    go_ret2
    exact ⟨rfl, hb _⟩
  have b2 : decide ((dn : Int) > 4) = false := by rw [decide_eq_false_iff_not]; omega
  rcases Nat.lt_or_ge 2 rk with h3 | h3
  · rw [if_neg (fun h => absurd h.2.2.1 (by omega))]
    have b3 : decide ((rk : Int) > 2) = true := by rw [decide_eq_true_eq]; omega
    go_enter Tryd.func57, Tryd.ntmps57
    go_wp2_with fail
    go_ret2
    exact ⟨rfl, hb _⟩
  have b3 : decide ((rk : Int) > 2) = false := by rw [decide_eq_false_iff_not]; omega
  rcases Nat.lt_or_ge 3 dc with h4 | h4
  · rw [if_neg (fun h => absurd h.2.2.2 (by omega))]
    have b4 : decide ((dc : Int) > 3) = true := by rw [decide_eq_true_eq]; omega
    go_enter Tryd.func57, Tryd.ntmps57
    go_wp2_with fail
    go_ret2
    exact ⟨rfl, hb _⟩
  have b4 : decide ((dc : Int) > 3) = false := by rw [decide_eq_false_iff_not]; omega
  rw [if_pos ⟨h1, h2, h3, h4⟩]
  have ew : IntKind.u8.wrap ((dc : Int) + 1) = (dc : Int) + 1 := by rw [IntKind.wrap_u8]; omega
  have et : ((dc : Int) + 1).tmod 4 = (((dc + 1) % 4 : Nat) : Int) := by rw [Int.tmod_eq_emod_of_nonneg (by omega)]; omega
  have ew2 : IntKind.u8.wrap (((dc + 1) % 4 : Nat) : Int) = (((dc + 1) % 4 : Nat) : Int) := by rw [IntKind.wrap_u8]; omega
  have HS := Lib.hid (fun W => rq_Seat9 dc h4 W)
  go_enter Tryd.func57, Tryd.ntmps57
  go_wp2_with (go_at_call 79; refine (HS.out _).mono ?_; rintro e w' ⟨rfl, rfl⟩)
  go_ret2
  exact ⟨rfl, hb _⟩
/-- a slice from a place to a place -/
theorem mid_run (a : Option Addr) (k cap l h : Nat) (zs : List Nat) (w : World) (hl : l ≤ h) (hh : h ≤ k) (hkc : k ≤ cap) (hb : Byt w a k zs) :
    ∃ a', (∀ wx, (Instr.slice 22 (.slice a k cap) (some (.int .i64 (l : Int))) (some (.int .i64 (h : Int))) none).run Tryd.prog wx = .ok (.slice a' (h - l) (cap - l)) wx) ∧ Byt w a' (h - l) ((zs.drop l).take (h - l)) ∧ (∀ ad, a' = some ad → ∃ ad0, a = some ad0 ∧ ad.block = ad0.block) := by
  have hsz : ∀ wx, (sizeOf (Tryd.prog.elem 22)).run Tryd.prog wx = .ok 1 wx := by intro wx; kernel_rfl
  refine ⟨if cap = l then a else a.map (·.add (l * 1)), fun wx => ?_, ?_, ?_⟩
  · rw [run_slice_lh wx 22 a k cap (by kernel_rfl) _ _ _ _ (by omega) (by omega) (by omega), hsz]
    simp [Result.andThen, sliced]
  · refine ⟨by rw [List.length_take, List.length_drop, hb.length]; omega, by have := hb.small; omega, fun i => ?_, ?_⟩
    · have := hb.byte (l + i)
      rw [List.getD_eq_getElem?_getD] at this ⊢
      rw [List.getElem?_take]
      split
      · rwa [List.getElem?_drop]
      · exact (by decide : (0 : Nat) < 256)
    · rcases Nat.lt_or_ge l h with hlt | hge
      · right
        obtain ⟨b, off, rfl, hbs, hcs⟩ := hb.at (by omega)
        rw [if_neg (by omega : ¬ cap = l)]
        refine ⟨b, off + l, by simp [Addr.add], hbs, fun i hi => ?_⟩
        have := hcs (l + i) (by omega)
        rw [List.getD_eq_getElem?_getD] at this ⊢
        rw [List.getElem?_take, if_pos hi, List.getElem?_drop, Nat.add_assoc]
        exact this
      · left; omega
  · intro ad he
    cases a with
    | none => split at he <;> simp at he
    | some ad0 =>
      refine ⟨ad0, rfl, ?_⟩
      split at he
      · injection he with e; rw [e]
      · simp at he; rw [← he]; simp only [Addr.add]; split <;> rfl
theorem rq_Over (r : Rp) (hr : r.ok) (a : Option Addr) (cap : Nat) (vb : Value) (w : World) :
    Calls Tryd.prog 77 #[.agg (r.cells (.slice a r.cs.length cap) vb)] w fun e w' => e = .returned (.bool r.over) ∧ Below w.heap.size w w' := by
  have HC := Lib.hid (fun W => rq_count (r.d 0) (hr.d 0) W)
  have h52 := hr.len
  have hpp : pop (r.d 0) ≤ 64 := cnt_leR _ _
  have HO : Hid (((r.cs.length : Int) == ((4 * pop (r.d 0) : Nat) : Int)) = r.over) := Lib.hid (by unfold Rp.over; rw [Bool.eq_iff_iff, beq_iff_eq, beq_iff_eq]; omega)
  obtain ⟨n, hn⟩ : ∃ n, r.cs.length = n := ⟨_, rfl⟩
  obtain ⟨q, hq⟩ : ∃ q, pop (r.d 0) = q := ⟨_, rfl⟩
  obtain ⟨q4, hq4⟩ : ∃ x, 4 * q = x := ⟨_, rfl⟩
  rw [hq] at HC HO hpp
  rw [hn, hq4] at HO
  rw [hn] at h52 ⊢
  have e4 : 4 * (q : Int) = (q4 : Int) := by omega
  have HR := Lib.hid (Row.new w 71 (r.cells (.slice a n cap) vb))
  have HB := Lib.hid ((Below.refl w.heap.size w).alloc (Nat.le_refl _) (.cells (r.cells (.slice a n cap) vb) 71))
  clear hn hq hq4
  go_enter Tryd.func77, Tryd.ntmps77
  go_upto_region 1 with fail
  show Code.wp _ _ _ _ (w.alloc (.cells (r.cells (.slice a n cap) vb) 71))
  generalize w.alloc (.cells (r.cells (.slice a n cap) vb) 71) = w1 at *
  have c0 : w1.cell? ⟨w.heap.size, 0, none⟩ = some (.int .u64 (r.d 0 : Int)) := HR.out.cell 0
  have c8 : w1.cell? ⟨w.heap.size, 8, none⟩ = some (.slice a n cap) := HR.out.cell 8
  have r0 := fun dd os => cell_regrown c0 dd os
  have r8 := fun dd os => cell_regrown c8 dd os
  refine wp_region_quiet_below (by kernel_rfl) (by kernel_rfl) ?_
  repeat (first
    | go_big_quiet_step (fail)
    | quiet_step (with_reducible exact Calls.regrown_of ((HC.out _).mono fun _ _ ⟨he, hw⟩ => ⟨he, hw ▸ Below.refl _ _⟩))
    | quiet_step (fail))
  refine wpQuiet_nil ?_
  rintro _ ⟨qq, rfl⟩
  have HBq := Lib.hid (HB.out.trans ((below_regrown w1 qq.d qq.os).mono HB.out.size))
  generalize grow (redrawn w1 qq.d) qq.os = w2 at *
  clear c0 c8 r0 r8
  go_wp2_with fail
  go_ret
  exact ⟨by rw [← HO.out]; rfl, HBq.out⟩
end Go.Proofs.YtginbellakkliaaDoor

/- The reference of chapter 12 over this seat's program: Leaders, seat, Turn, Chooser. -/
namespace Go.Proofs.YtginbellakkliaaDoor
open Go.RowKit Go.Shelf Go.Sort Go.Maps Go.WideMaps
attribute [local go_sem] Oper.semAt_some

theorem ownU_one (w : World) (base : Nat) (h : base ≤ w.heap.size) (c : Nat) : OwnU (w.alloc (.cells #[.int .u8 (c : Int)] 5)) base (.slice (some ⟨w.heap.size, 0, none⟩) 1 1) [c] :=
  ⟨encU_len, by simp, .inr ⟨w.heap.size, 1, #[.int .u8 (c : Int)], rfl, h, World.alloc_heap_new w _, Nat.le_refl _, by unfold maxLen; omega, rfl, by simp⟩⟩
theorem size_rp : (Tryd.prog.info? 71).map (·.size) = some 10 := by kernel_rfl
def Rp.lds (r : Rp) : List Nat := (List.range (r.cs.length / 4 + 1)).map r.ldr
theorem lds_len (r : Rp) : r.lds.length = r.cs.length / 4 + 1 := by simp [Rp.lds]
theorem lds_get (r : Rp) {k : Nat} (h : k ≤ r.cs.length / 4) : r.lds[k]? = some (r.ldr k) := by
  unfold Rp.lds
  rw [List.getElem?_map, List.getElem?_range (by omega)]; rfl
theorem lds_byte (r : Rp) (k : Nat) : (((List.range k).map r.ldr)).getD k 0 < 256 := by
  rw [List.getD_eq_getElem?_getD, List.getElem?_eq_none (by simp)]; exact (by decide : (0 : Nat) < 256)
set_option maxHeartbeats 4000000 in
set_option maxRecDepth 10000 in
theorem rq_Leaders (r : Rp) (hr : r.ok) (a : Option Addr) (cap : Nat) (vb : Value) (w : World) (hz : Byt w a r.cs.length r.cs) (hcap : r.cs.length ≤ cap) :
    Calls Tryd.prog 86 #[.agg (r.cells (.slice a r.cs.length cap) vb)] w fun e w' => ∃ v, e = .returned v ∧ OwnU w' w.heap.size v r.lds ∧ Below w.heap.size w w' := by
  have HLD := Lib.hid (fun W => rq_Leader r.lv r.dn r.rk r.dc W)
  have hlv : leadV r.lv r.dn r.rk r.dc = ((r.dc + 1) % 4, 0) := by
    have h1 := hr.lv; have h2 := hr.dn; have h3 := hr.rk; have h4 := hr.dc
    unfold leadV; rw [if_neg (by omega), if_pos ⟨h1.2, h2, h3, h4⟩]
  rw [hlv] at HLD
  have h52 := hr.len
  have HF0 : Hid (r.ldr 0 = (r.dc + 1) % 4) := Lib.hid rfl
  have HLDS : Hid (r.lds = (List.range (r.cs.length / 4 + 1)).map r.ldr) := Lib.hid rfl
  have hcp := hcap
  have HYZ := Lib.hid hz
  have HR := Lib.hid (Row.new w 71 (r.cells (.slice a r.cs.length cap) vb))
  have HB := Lib.hid ((Below.refl w.heap.size w).alloc (Nat.le_refl _) (.cells (r.cells (.slice a r.cs.length cap) vb) 71))
  have HY1 := Lib.hid (hz.below (Nat.le_refl _) HB.out)
  obtain ⟨PA, hPA⟩ : ∃ A, r.cells (.slice a r.cs.length cap) vb = A := ⟨_, rfl⟩
  have HPZ : Hid (PA.size = 10) := Lib.hid (by rw [← hPA]; rfl)
  have HPE := Lib.hid hPA
  rw [hPA] at HR HB HY1 ⊢
  obtain ⟨n, hn⟩ : ∃ n, r.cs.length = n := ⟨_, rfl⟩
  have HN := Lib.hid hn
  obtain ⟨M, hM⟩ : ∃ M, n / 4 = M := ⟨_, rfl⟩
  have hM1 : 4 * M ≤ n := by omega
  have hM2 : n < 4 * M + 4 := by omega
  rw [hn] at h52 HY1 HPE HYZ HLDS hcp
  rw [hM] at HLDS
  clear hlv hn hM
  clear hPA hz hcap hr
  go_enter Tryd.func86, Tryd.ntmps86
  go_upto_region 1 with fail
  show Code.wp _ _ _ _ (w.alloc (.cells PA 71))
  generalize w.alloc (.cells PA 71) = w1 at *
  obtain ⟨b, hb⟩ : ∃ b, w.heap.size = b := ⟨_, rfl⟩
  have HBE := Lib.hid hb
  rw [hb] at HR ⊢
  clear hb
  have c4 : w1.cell? ⟨b, 4, none⟩ = some (.int .u8 (r.lv : Int)) := by rw [HR.out.cell 4, ← HPE.out]; rfl
  have c5 : w1.cell? ⟨b, 5, none⟩ = some (.int .u8 (r.dn : Int)) := by rw [HR.out.cell 5, ← HPE.out]; rfl
  have c6 : w1.cell? ⟨b, 6, none⟩ = some (.int .u8 (r.rk : Int)) := by rw [HR.out.cell 6, ← HPE.out]; rfl
  have c7 : w1.cell? ⟨b, 7, none⟩ = some (.int .u8 (r.dc : Int)) := by rw [HR.out.cell 7, ← HPE.out]; rfl
  go_wp2_with fail
  refine (HLD.out _).mono ?_
  rintro e w2 ⟨rfl, hb2⟩
  have HR2 := Lib.hid (HR.out.later hb2)
  have HB2 := Lib.hid (HB.out.trans (hb2.mono HB.out.size))
  have HY2 := Lib.hid (HY1.out.below (Nat.le_refl _) hb2)
  have HOW := Lib.hid (ownU_one w2 w2.heap.size (Nat.le_refl _) ((r.dc + 1) % 4))
  have ha := (Below.refl w2.heap.size w2).alloc (Nat.le_refl _) (.cells #[.int .u8 (((r.dc + 1) % 4 : Nat) : Int)] 5)
  have HR3 := Lib.hid (HR2.out.later ha)
  have HY3 := Lib.hid (HY2.out.below (Nat.le_refl _) ha)
  have HA3 := Lib.hid ha
  rw [← HF0.out] at HOW
  clear hb2 c4 c5 c6 c7 ha HLD HR HB HY1
  go_upto_region 4 with fail
  show Code.wp _ _ _ _ (w2.alloc (.cells #[.int .u8 (((r.dc + 1) % 4 : Nat) : Int)] 5))
  rw [HF0.out] at HOW
  generalize w2.alloc (.cells #[.int .u8 (((r.dc + 1) % 4 : Nat) : Int)] 5) = w3 at *
  rw [← HF0.out] at HOW
  have HSZ : Hid (w2.heap.size ≤ w3.heap.size ∧ b < w3.heap.size) := Lib.hid ⟨HA3.out.size, HR3.out.lt⟩
  try dsimp only [Act.put]
  go_loopg [5, 6] M (fun g lv iv wr => ∃ (k : Nat), g = M - k ∧ k ≤ M ∧ iv = .int .i64 ((4 * (k + 1) : Nat) : Int) ∧ OwnU wr w2.heap.size lv ((List.range (k + 1)).map r.ldr) ∧ Below w2.heap.size w2 wr)
  case atStart => exact ⟨0, rfl, by omega, rfl, HOW.out, HA3.out⟩
  case round =>
    obtain ⟨k, rfl, hk, rfl, hown, hbk⟩ := hrel
    have HOK := Lib.hid hown
    have HBK := Lib.hid hbk
    have HRK := Lib.hid (HR2.out.later hbk)
    have HYK := Lib.hid (HY2.out.below (Nat.le_refl _) hbk)
    have c8 : wr.cell? ⟨b, 8, none⟩ = some (.slice a n cap) := by rw [HRK.out.cell 8, ← HPE.out]; rfl
    have c5 : wr.cell? ⟨b, 5, none⟩ = some (.int .u8 (r.dn : Int)) := by rw [HRK.out.cell 5, ← HPE.out]; rfl
    have r8 := fun dd os => cell_regrown c8 dd os
    have r5 := fun dd os => cell_regrown c5 dd os
    clear hown hbk
    obtain ⟨i, hi⟩ : ∃ i, 4 * (k + 1) = i := ⟨_, rfl⟩
    rw [hi]
    by_cases hlt : k < M
    · have hd : decide (i ≤ n) = true := by simp; omega
      obtain ⟨v2, c2, hve, hvs⟩ := HOK.out.slice
      obtain ⟨g, rfl⟩ := hvs (by simp)
      have hlen : ((List.range (k + 1)).map r.ldr).length = k + 1 := by simp
      rw [hlen] at hve
      subst hve
      have hg : ((List.range (k + 1)).map r.ldr)[k]? = some (r.ldr k) := by rw [List.getElem?_map, List.getElem?_range (by omega)]; rfl
      have ek : wr.cell? ⟨g, k, none⟩ = some (.int .u8 (r.ldr k : Int)) := by
        have := HOK.out.cell k 0 (by decide) hg
        rw [Nat.mul_one, Nat.add_zero] at this
        exact this
      have rk := fun dd os => cell_regrown ek dd os
      have hki : (k : Int) < ((k + 1 : Nat) : Int) := by omega
      obtain ⟨j, hj⟩ : ∃ j, i - 4 = j := ⟨_, rfl⟩
      have ej : (i : Int) - 4 = (j : Int) := by omega
      obtain ⟨a', hsl, hby, -⟩ := mid_run a n cap j i r.cs wr (by omega) (by omega) hcp (by have := HYK.out; exact this)
      have hij : i - j = 4 := by omega
      rw [hij] at hsl hby
      have HBY := Lib.hid hby
      have HSE := Lib.hid (fun W (hb : Below wr.heap.size wr W) => ref_Seat r.dn (r.ldr k) a' 4 (cap - j) ((r.cs.drop j).take 4) W (HBY.out.below (Nat.le_refl _) hb))
      have HNX : Hid ((seatV r.dn (r.ldr k) ((r.cs.drop j).take 4)).1 = r.ldr (k + 1)) := Lib.hid (by rw [show j = 4 * k by omega]; rfl)
      rw [HNX.out] at HSE
      obtain ⟨se, hse⟩ : ∃ z, (seatV r.dn (r.ldr k) ((r.cs.drop j).take 4)).2 = z := ⟨_, rfl⟩
      rw [hse] at HSE
      have HLT := Lib.hid (r.ldr_lt (k + 1))
      have HOL : Hid ((List.range (k + 1)).map r.ldr ++ [r.ldr (k + 1)] = (List.range (k + 1 + 1)).map r.ldr) := Lib.hid (by rw [List.range_succ (n := k + 1), List.map_append]; rfl)
      have HLL : Hid (((List.range (k + 1)).map r.ldr).length = k + 1) := Lib.hid hlen
      obtain ⟨L, hL⟩ : ∃ L, (List.range (k + 1)).map r.ldr = L := ⟨_, rfl⟩
      rw [hL] at HOK HOL HLL
      obtain ⟨x, hx⟩ : ∃ x, r.ldr k = x := ⟨_, rfl⟩
      obtain ⟨y, hy⟩ : ∃ y, r.ldr (k + 1) = y := ⟨_, rfl⟩
      rw [hx] at ek rk HSE
      rw [hy] at HSE HOL HLT
      obtain ⟨k1, hk1⟩ : ∃ z, k + 1 = z := ⟨_, rfl⟩
      have ek1 : (k1 : Int) - 1 = (k : Int) := by omega
      rw [hk1] at HOK hki HLL ⊢
      clear hg hlen hby hij hse hL hx hy
      go_upto_region 6 with fail
      refine wp_region_quiet_below (by kernel_rfl) (by kernel_rfl) ?_
      repeat (first
        | go_big_quiet_step (fail)
        | quiet_step (with_reducible exact Calls.regrown_of (HSE.out _ (below_regrown _ _ _)))
        | quiet_step (fail))
      refine wpQuiet_nil ?_
      rintro _ ⟨qq, rfl⟩
      have hbq := below_regrown wr qq.d qq.os
      have HBQ := Lib.hid (HBK.out.trans (hbq.mono HBK.out.size))
      have HOQ := Lib.hid (Owns.below HOK.out hbq)
      generalize grow (redrawn wr qq.d) qq.os = w5 at *
      clear hbq c8 c5 r8 r5 ek rk hsl ek1 ej
      go_upto_region 5 with (at_builtin; refine appU rfl (.tmp 43) (.tmp 45) rfl w2.heap.size _ L [y] rfl (HOQ.out.alloc _) _ _ _ rfl (byt_new1 w5 y (by have := HLT.out; omega)) (by have := HLL.out; omega) (by rw [World.size_alloc]; have := HBQ.out.size; omega) ?_; intro v3 w10 hown10 hb10 hg10 hnb10)
      have HO10 := Lib.hid hown10
      have HB10 := Lib.hid (HBQ.out.trans (((Below.refl w2.heap.size w5).alloc HBQ.out.size (.cells #[.int .u8 (y : Int)] 5)).trans hb10))
      clear hown10 hb10 hg10 hnb10
      go_wp2_with fail
      go_roundg (M - (k + 1))
      case measure => omega
      case rel => exact ⟨k + 1, rfl, by omega, by rw [← hi]; go_num, by rw [← HOL.out]; exact HO10.out, HB10.out⟩
    · have hkM : k = M := by omega
      have hd : decide (i ≤ n) = false := by simp; omega
      have HFIN : Hid ((List.range (k + 1)).map r.ldr = r.lds) := Lib.hid (by rw [HLDS.out, hkM])
      clear hkM
      go_wp2_with fail
      go_ret
      exact ⟨_, rfl, by rw [← HFIN.out]; exact HOK.out.mono HB2.out.size, HB2.out.trans (HBK.out.mono HB2.out.size)⟩
end Go.Proofs.YtginbellakkliaaDoor
