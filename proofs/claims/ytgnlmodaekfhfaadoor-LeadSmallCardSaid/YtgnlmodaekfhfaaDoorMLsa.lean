/- LsA, LsB in one text. -/
import Derived.Test.YtgnlmodaekfhfaaDoorLdF
import Derived.Test.YtgnlmodaekfhfaaDoorLdU
import Derived.Test.YtgnlmodaekfhfaaDoorMAct
import Derived.Test.YtgnlmodaekfhfaaDoorMRelt

/- The methods of a table that is none: nil, or the zero one. -/
namespace Go.Proofs.YtgnlmodaekfhfaaDoor
open Go.RowKit Go.Shelf Go.Sort

/-- a pointer to no table that New made -/
def NoT (w : World) (pv : Value) : Prop := pv = .pointer none ∨ ∃ B, pv = .pointer (some ⟨B, 0, none⟩) ∧ TblAt w B St.zero
theorem NoT.below {w w' : World} {pv : Value} (h : NoT w pv) (hb : Below w.heap.size w w') : NoT w' pv := by
  rcases h with h | ⟨B, h, h1⟩
  · exact .inl h
  · exact .inr ⟨B, h, h1.below h1.lt hb⟩
theorem no_made {w : World} {pv : Value} (h : NoT w pv) : Calls Tryd.prog 29 #[pv] w fun e w' => e = .returned (.bool false) ∧ w = w' := by
  rcases h with rfl | ⟨B, rfl, h⟩
  · go_enter Tryd.func29, Tryd.ntmps29
    go_wp2_with fail
    go_ret
    exact ⟨rfl, rfl⟩
  · refine (ld_made h).mono ?_
    rintro e w' ⟨rfl, rfl⟩
    have hs : St.zero.same St.zero = true := by decide
    exact ⟨by rw [hs]; rfl, rfl⟩
theorem no_Turn {w : World} {pv : Value} (h : NoT w pv) : Calls Tryd.prog 26 #[pv] w fun e w' => e = .returned (.tuple #[.int .u8 0, .int .i64 1]) ∧ w = w' := by
  have HM := Lib.hid (no_made h)
  clear h
  go_enter Tryd.func26, Tryd.ntmps26
  go_wp2_with (go_at_call 29; refine HM.out.mono ?_; rintro e w' ⟨rfl, rfl⟩)
  go_ret2
  exact ⟨rfl, rfl⟩
theorem no_Play {w : World} {pv : Value} (c : Int) (h : NoT w pv) : Calls Tryd.prog 16 #[pv, .int .u8 c] w fun e w' => e = .returned (.int .i64 1) ∧ w = w' := by
  have HM := Lib.hid (no_made h)
  clear h
  go_enter Tryd.func16, Tryd.ntmps16
  go_wp2_with (go_at_call 29; refine HM.out.mono ?_; rintro e w' ⟨rfl, rfl⟩)
  go_ret
  exact ⟨rfl, rfl⟩
theorem no_Lead {w : World} {pv : Value} (s c : Int) (h : NoT w pv) : Calls Tryd.prog 15 #[pv, .int .u8 s, .int .u8 c] w fun e w' => e = .returned (.int .i64 1) ∧ w = w' := by
  have HM := Lib.hid (no_made h)
  clear h
  go_enter Tryd.func15, Tryd.ntmps15
  go_wp2_with (go_at_call 29; refine HM.out.mono ?_; rintro e w' ⟨rfl, rfl⟩)
  go_ret
  exact ⟨rfl, rfl⟩
theorem no_Choose {w : World} {pv : Value} (c : Int) (h : NoT w pv) : Calls Tryd.prog 17 #[pv, .int .u8 c] w fun e w' => e = .returned (.int .i64 1) ∧ w = w' := by
  have HM := Lib.hid (no_made h)
  clear h
  go_enter Tryd.func17, Tryd.ntmps17
  go_wp2_with (go_at_call 29; refine HM.out.mono ?_; rintro e w' ⟨rfl, rfl⟩)
  go_ret
  exact ⟨rfl, rfl⟩
theorem no_Demand {w : World} {pv : Value} (c : Int) (b : Bool) (h : NoT w pv) : Calls Tryd.prog 23 #[pv, .int .u8 c, .bool b] w fun e w' => e = .returned (.int .i64 1) ∧ w = w' := by
  have HM := Lib.hid (no_made h)
  clear h
  go_enter Tryd.func23, Tryd.ntmps23
  go_wp2_with (go_at_call 29; refine HM.out.mono ?_; rintro e w' ⟨rfl, rfl⟩)
  go_ret
  exact ⟨rfl, rfl⟩
theorem no_Legal {w : World} {pv : Value} (h : NoT w pv) : Calls Tryd.prog 18 #[pv] w fun e w' => e = .returned (.int .u64 0) ∧ w = w' := by
  have HM := Lib.hid (no_made h)
  clear h
  go_enter Tryd.func18, Tryd.ntmps18
  go_wp2_with (go_at_call 29; refine HM.out.mono ?_; rintro e w' ⟨rfl, rfl⟩)
  go_ret
  exact ⟨rfl, rfl⟩
theorem no_Choices {w : World} {pv : Value} (h : NoT w pv) : Calls Tryd.prog 22 #[pv] w fun e w' => e = .returned (.int .u8 0) ∧ w = w' := by
  have HM := Lib.hid (no_made h)
  clear h
  go_enter Tryd.func22, Tryd.ntmps22
  go_wp2_with (go_at_call 29; refine HM.out.mono ?_; rintro e w' ⟨rfl, rfl⟩)
  go_ret
  exact ⟨rfl, rfl⟩
section
attribute [-go_sem] Instr.build
theorem no_State {w : World} {pv : Value} (h : NoT w pv) {ZA : Array Value} (hZA : ZA = St.zero.cells) : Calls Tryd.prog 19 #[pv] w fun e w' => e = .returned (.agg ZA) ∧ Below w.heap.size w w' := by
  have HZ : Hid ((Tryd.prog.info? 45).map (·.size) = some ZA.size ∧ ZA.size = 24 ∧ ZA.all (·.oneCell') = true) := Lib.hid (by rw [hZA]; exact ⟨size_st, rfl, by simp [Value.oneCell']⟩)
  have hbz : ∀ w, (Instr.build 45 #[]).run Tryd.prog w = .ok (.agg ZA) w := fun w => by rw [hZA]; exact run_build w 45 _ _ (by kernel_rfl)
  have HN := Lib.hid (Row.new w 45 zst)
  have HB := Lib.hid ((Below.refl w.heap.size w).alloc (Nat.le_refl _) (.cells zst 45))
  have HH := Lib.hid h
  clear hZA h
  go_enter Tryd.func19, Tryd.ntmps19
  go_upto_region 1 with fail
  obtain ⟨w1, hw1⟩ : ∃ w1, w1 = w.alloc (.cells zst 45) := ⟨_, rfl⟩
  change Code.wp _ _ _ _ (w.alloc (.cells zst 45))
  rw [← hw1] at HN HB ⊢
  have HM1 := Lib.hid (no_made (HH.out.below HB.out))
  clear hw1
  go_upto_region 2 with (go_at_call 29; refine HM1.out.mono ?_; rintro e w' ⟨rfl, rfl⟩)
  go_wp2_with (refine wpList_store_row rfl 45 (.tmp 2) (.tmp 6) rfl w.heap.size ZA rfl rfl 45 _ HN.out HZ.out.1 (by rw [HZ.out.2.1]; rfl) HZ.out.2.2 ?_)
  refine bodyPost_ret (v := .agg ZA) (results_cell1 Tryd.results19 _ _ w.heap.size _ ZA (0, 0) _ rfl (setRow_heap _ _ _ _ _ _ HN.out) Tryd.underlying45 rfl HZ.out.1) rfl ⟨rfl, below_setRow HB.out (Nat.le_refl _) _⟩
end
end Go.Proofs.YtgnlmodaekfhfaaDoor

/- Acts of LeadSmall: freshly built slices of acts, appended ones. -/
namespace Go.Proofs.YtgnlmodaekfhfaaDoor
open Go.RowKit Go.Shelf Go.Sort

/-- a whole row is loaded; what the operation is, is asked first -/
theorem wpList_load_row_h {P : Program} {ops : Array Oper} {rest : List Oper} {o : Oper} {a : Act} {w : World} {Q : Exit → Act → World → Prop} (ty : TypeId) (x : Operand) (ho : o.op = .load ty x) (hw : Region.wanted o (yielded ops a.tmps) = true)
    (g : Nat) (hx : a.eval x = .pointer (some ⟨g, 0, none⟩)) (t : TypeId) (cs : Array Value) (fr : Nat × Nat) (d : TypeDesc) (hg : w.heap[g]? = some (.cells cs t fr))
    (hu : P.underlying ty = some d) (hd : (match d with | .struct _ | .array _ _ => true | _ => false) = true) (hi : (P.info? ty).map (·.size) = some cs.size)
    (h : wpList P ops Q rest (a.put o.dst (.agg cs)) w) : wpList P ops Q (o :: rest) a w :=
  wpList_load_row_g hw ty x ho g hx t cs fr d hg hu hd hi h
/-- what the call owns can be handed in -/
theorem own_acts {w : World} {base : Nat} {v : Value} {l : List AcT} (h : OwnA w base v l) (hok : ∀ x ∈ l, x.ok) (hl : l.length ≤ 100000) : ∃ av cv, v = .slice av l.length cv ∧ Acts w av l.length l := by
  have hat : ∀ (i : Nat) x, l[i]? = some x → x.ok := fun i x hx => hok x (List.mem_of_getElem? hx)
  obtain ⟨hm, hx, ho⟩ := h
  rcases ho with ⟨hv, hn⟩ | ⟨g, cap, cur, hv, hb, hh, hn, hcm, hcs, ht⟩
  · skip
    exact ⟨none, 0, by rw [hn]; exact hv, rfl, by omega, hat, .inl hn⟩
  · refine ⟨some ⟨g, 0, none⟩, cap, hv, rfl, by omega, hat, .inr ⟨g, 0, rfl, (Array.getElem?_eq_some_iff.1 hh).1, fun i x hxi j hj => ?_⟩⟩
    have hf := flat_at hm l i j (by omega) hxi
    rw [← ht] at hf
    have hlt : i * 3 + j < l.length * 3 := by have := (List.getElem?_eq_some_iff.1 hxi).1; omega
    rw [List.getElem?_take_of_lt hlt] at hf
    rw [Nat.zero_add]
    show w.cell? ⟨g, i * 3 + j, none⟩ = _
    have hc : w.cell? ⟨g, i * 3 + j, none⟩ = cur[i * 3 + j]? := (show Row w g 41 cur from hh).cell _
    rw [hc, ← Array.getElem?_toList, hf, ← Array.getElem?_toList]
theorem own_new (w : World) (base : Nat) (h : base ≤ w.heap.size) (l : List AcT) (cs : Array Value) (hc : cs.toList = l.flatMap encA) (hl : l.length ≤ 1000) : OwnA (w.alloc (.cells cs 41)) base (.slice (some ⟨w.heap.size, 0, none⟩) l.length l.length) l := by
  have hf := flat_len encA_len l
  have hs : cs.size = l.length * 3 := by rw [← hf, ← hc]; rfl
  refine ⟨encA_len, hf, .inr ⟨w.heap.size, l.length, cs, rfl, h, World.alloc_heap_new w _, Nat.le_refl _, by unfold maxLen; omega, hs, ?_⟩⟩
  rw [← hs, ← hc]
  exact List.take_length
theorem acts_new (w : World) (l : List AcT) (cs : Array Value) (hc : cs.toList = l.flatMap encA) (hok : ∀ x ∈ l, x.ok) (hl : l.length ≤ 1000) : Acts (w.alloc (.cells cs 41)) (some ⟨w.heap.size, 0, none⟩) l.length l := by
  obtain ⟨av, cv, hv, ha⟩ := own_acts (own_new w 0 (Nat.zero_le _) l cs hc hl) hok (by omega)
  injection hv with h1 _ _
  rw [h1]; exact ha
/-- append(v, three acts...), in a region that draws its order -/
theorem ok_appA {o : Oper} {ρ : Operand → Value} {w : World} {R : Value → World → Prop} (s x : Operand)
    (ho : o.op = .call { callee := .builtin .append, args := #[s, x], argTypes := #[25, 25] })
    (base : Nat) (u : Value) (l ys : List AcT) (hs : ρ s = u) (hown : OwnA w base u l) (ad : Addr) (k c : Nat) (hx : ρ x = .slice (some ad) k c) (hk : ys.length = k) (hy : ∀ j u, (ys.flatMap encA)[j]? = some u → w.cell? (ad.add j) = some u)
    (hl : l.length + k ≤ 1000) (hbase : base ≤ w.heap.size)
    (h : ∀ v' w', OwnA w' base v' (l ++ ys) → Below base w w' → R v' w') : OpOk Tryd.prog o ρ w R := by
  obtain ⟨i0, hi, hz0, hz1, hz2⟩ := info_parts info_act
  obtain ⟨v', w', hr, h1, h3, h5, h4⟩ := run_append_own_at (P := Tryd.prog) (w := w) base 25 o.type 41 i0 _ 3 3 Tryd.underlying25 hi hz0 hz1 hz2 rfl (by decide) u l.length (l.flatMap encA) hown.2 ad k c (ys.flatMap encA) (by rw [flat_len encA_len, hk]) hy (fun u hu => by obtain ⟨y, _, h2⟩ := List.mem_flatMap.1 hu; exact encA_one y u h2) (by unfold maxLen; omega) (by omega) hbase
  refine ok_value (v := v') (w' := w') ?_ (h v' w' ⟨encA_len, ?_⟩ ((Below.refl _ _).grown h3 hbase (fun k hk => (World.ownsRow.lt hown.2 k hk).1)))
  · unfold execOp
    simp only [ho, resolve, invoke, builtin, Sem.run_bind, Sem.run_pure, Result.andThen_ok, List.map_toArray, List.map_cons, List.map_nil, hs, hx, hr]
  · rw [List.length_append, List.flatMap_append, hk]
    exact h1
/-- while three acts are built and appended -/
def LsS (w : World) (bd : Nat) (EA : Array Value) (v : Value) (l ys : List AcT) (vs _us : List Value) (W : World) : Prop := Below w.heap.size w W ∧ Row W bd 29 EA ∧ match vs with
  | [] => OwnA W (bd + 1) v l
  | [x] => OwnA W (bd + 1) v l ∧ ∃ g, x = .slice (some ⟨g, 0, none⟩) 3 3 ∧ ∀ j u, (ys.flatMap encA)[j]? = some u → W.cell? ((⟨g, 0, none⟩ : Addr).add j) = some u
  | [_, y] => OwnA W (bd + 1) y (l ++ ys)
  | [_, y, z] => z = y ∧ OwnA W (bd + 1) y (l ++ ys)
  | _ => False
end Go.Proofs.YtgnlmodaekfhfaaDoor
