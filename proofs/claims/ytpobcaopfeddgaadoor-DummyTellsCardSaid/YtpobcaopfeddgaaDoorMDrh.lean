/- Chn, DrH, DrI, DrJ in one text. -/
import Derived.Test.YtpobcaopfeddgaaDoorMDmu
import Derived.Test.YtpobcaopfeddgaaDoorMDre
import Derived.Laws.BytesArg
import Derived.Test.YtpobcaopfeddgaaDoorApl

/- Regions that draw their order: fixed values, and two chains of operations that change the world. No program in sight. -/
namespace Go.Proofs.YtpobcaopfeddgaaDoor
open Go.RowKit Go.Sort

/-- what has been done: vs are the values of the first chain so far, us those of the second; S says how the world is then; the other operations have fixed values -/
structure ChX (vals : List Value) (c1 c2 : List Nat) (S : List Value → List Value → World → Prop) (f : Done) (W : World) (vs us : List Value) : Prop where
  a1 : ∀ (j k : Nat), c1[j]? = some k → f k = vs[j]?
  a2 : ∀ (j k : Nat), c2[j]? = some k → f k = us[j]?
  l1 : vs.length ≤ c1.length
  l2 : us.length ≤ c2.length
  st : S vs us W
  val : ∀ (j : Nat) (v x : Value), j ∉ c1 → j ∉ c2 → f j = some v → vals[j]? = some x → v = x
def ChF (vals : List Value) (c1 c2 : List Nat) (S : List Value → List Value → World → Prop) (f : Done) (W : World) : Prop := ∃ vs us, ChX vals c1 c2 S f W vs us
variable {vals : List Value} {c1 c2 : List Nat} {S : List Value → List Value → World → Prop} {f : Done} {W W' : World} {vs us : List Value}
theorem ChF.start (h : S [] [] W) : ChF vals c1 c2 S (fun _ => none) W := ⟨[], [], fun _ _ _ => rfl, fun _ _ _ => rfl, Nat.zero_le _, Nat.zero_le _, h, fun _ _ _ _ _ h => by cases h⟩
theorem ChX.vset (h : ChX vals c1 c2 S f W vs us) (i : Nat) (v : Value) (hv : i ∈ c1 ∨ i ∈ c2 ∨ vals[i]? = some v) : ∀ (j : Nat) (u x : Value), j ∉ c1 → j ∉ c2 → (f.set i v) j = some u → vals[j]? = some x → u = x := by
  intro j u x h1 h2 hj hx
  by_cases e : j = i
  · subst e
    rw [Done.same] at hj
    rcases hv with e | e | hv
    · exact absurd e h1
    · exact absurd e h2
    · rw [hv] at hx
      exact (Option.some.inj hj).symm.trans (Option.some.inj hx)
  · rw [Done.other f v e] at hj
    exact h.val j u x h1 h2 hj hx
/-- an operation of fixed value -/
theorem ChX.pure (h : ChX vals c1 c2 S f W vs us) (i : Nat) (v : Value) (h1 : i ∉ c1) (h2 : i ∉ c2) (hv : vals[i]? = some v) (hS : S vs us W') : ChF vals c1 c2 S (f.set i v) W' := by
  refine ⟨vs, us, fun j k hk => ?_, fun j k hk => ?_, h.l1, h.l2, hS, h.vset i v (.inr (.inr hv))⟩
  · rw [Done.other f v (fun e => h1 (by rw [← e]; exact List.mem_of_getElem? hk))]; exact h.a1 j k hk
  · rw [Done.other f v (fun e => h2 (by rw [← e]; exact List.mem_of_getElem? hk))]; exact h.a2 j k hk
/-- the next operation of the first chain -/
theorem ChX.step1 (h : ChX vals c1 c2 S f W vs us) (i : Nat) (v : Value) (hi : c1[vs.length]? = some i) (hn : c1.Nodup) (h2 : i ∉ c2) (hS : S (vs ++ [v]) us W') : ChF vals c1 c2 S (f.set i v) W' := by
  have hlt : vs.length < c1.length := (List.getElem?_eq_some_iff.1 hi).1
  refine ⟨vs ++ [v], us, fun j k hk => ?_, fun j k hk => ?_, by rw [List.length_append]; exact hlt, h.l2, hS, h.vset i v (.inl (List.mem_of_getElem? hi))⟩
  · by_cases e : j = vs.length
    · subst e
      obtain rfl : k = i := Option.some.inj (hk.symm.trans hi)
      rw [Done.same, List.getElem?_append_right (Nat.le_refl _), Nat.sub_self]; rfl
    · have hki : k ≠ i := fun e2 => e (by
        subst e2
        exact (List.getElem?_inj (List.getElem?_eq_some_iff.1 hk).1 hn).1 (hk.trans hi.symm))
      rw [Done.other f v hki, h.a1 j k hk]
      rcases Nat.lt_or_ge j vs.length with hj | hj
      · rw [List.getElem?_append_left hj]
      · rw [List.getElem?_eq_none hj, List.getElem?_eq_none (by rw [List.length_append]; simp; omega)]
  · rw [Done.other f v (fun e => h2 (by rw [← e]; exact List.mem_of_getElem? hk))]; exact h.a2 j k hk
/-- the next operation of the second chain -/
theorem ChX.step2 (h : ChX vals c1 c2 S f W vs us) (i : Nat) (v : Value) (hi : c2[us.length]? = some i) (hn : c2.Nodup) (h1 : i ∉ c1) (hS : S vs (us ++ [v]) W') : ChF vals c1 c2 S (f.set i v) W' := by
  have hlt : us.length < c2.length := (List.getElem?_eq_some_iff.1 hi).1
  refine ⟨vs, us ++ [v], fun j k hk => ?_, fun j k hk => ?_, h.l1, by rw [List.length_append]; exact hlt, hS, h.vset i v (.inr (.inl (List.mem_of_getElem? hi)))⟩
  · rw [Done.other f v (fun e => h1 (by rw [← e]; exact List.mem_of_getElem? hk))]; exact h.a1 j k hk
  · by_cases e : j = us.length
    · subst e
      obtain rfl : k = i := Option.some.inj (hk.symm.trans hi)
      rw [Done.same, List.getElem?_append_right (Nat.le_refl _), Nat.sub_self]; rfl
    · have hki : k ≠ i := fun e2 => e (by
        subst e2
        exact (List.getElem?_inj (List.getElem?_eq_some_iff.1 hk).1 hn).1 (hk.trans hi.symm))
      rw [Done.other f v hki, h.a2 j k hk]
      rcases Nat.lt_or_ge j us.length with hj | hj
      · rw [List.getElem?_append_left hj]
      · rw [List.getElem?_eq_none hj, List.getElem?_eq_none (by rw [List.length_append]; simp; omega)]
theorem ChX.get1 (h : ChX vals c1 c2 S f W vs us) (j i : Nat) {v : Value} (hj : c1[j]? = some i) (hf : f i = some v) : vs[j]? = some v := (h.a1 j i hj).symm.trans hf
theorem ChX.get2 (h : ChX vals c1 c2 S f W vs us) (j i : Nat) {v : Value} (hj : c2[j]? = some i) (hf : f i = some v) : us[j]? = some v := (h.a2 j i hj).symm.trans hf
theorem ChX.le1 (h : ChX vals c1 c2 S f W vs us) (j i : Nat) (hj : c1[j]? = some i) (hf : f i = none) : vs.length ≤ j := List.getElem?_eq_none_iff.1 ((h.a1 j i hj).symm.trans hf)
theorem ChX.le2 (h : ChX vals c1 c2 S f W vs us) (j i : Nat) (hj : c2[j]? = some i) (hf : f i = none) : us.length ≤ j := List.getElem?_eq_none_iff.1 ((h.a2 j i hj).symm.trans hf)
theorem list0 {l : List Value} (h : l.length ≤ 0) : l = [] := List.length_eq_zero_iff.1 (by omega)
theorem list1 {l : List Value} {x : Value} (h : l.length ≤ 1) (hx : l[0]? = some x) : l = [x] := by
  match l, h, hx with
  | [y], _, hx => rw [Option.some.inj (show some y = some x from hx)]
theorem list2 {l : List Value} {x : Value} (h : l.length ≤ 2) (hx : l[1]? = some x) : ∃ y, l = [y, x] := by
  match l, h, hx with
  | [y, z], _, hx => exact ⟨y, by rw [Option.some.inj (show some z = some x from hx)]⟩
theorem list3 {l : List Value} {x : Value} (h : l.length ≤ 3) (hx : l[2]? = some x) : ∃ y z, l = [y, z, x] := by
  match l, h, hx with
  | [y, z, u], _, hx => exact ⟨y, z, by rw [Option.some.inj (show some u = some x from hx)]⟩
theorem list4 {l : List Value} {x : Value} (h : l.length ≤ 4) (hx : l[3]? = some x) : ∃ y z u, l = [y, z, u, x] := by
  match l, h, hx with
  | [y, z, u, v], _, hx => exact ⟨y, z, u, by rw [Option.some.inj (show some v = some x from hx)]⟩
theorem list5 {l : List Value} {x : Value} (h : l.length ≤ 5) (hx : l[4]? = some x) : ∃ y z u v, l = [y, z, u, v, x] := by
  match l, h, hx with
  | [y, z, u, v, t], _, hx => exact ⟨y, z, u, v, by rw [Option.some.inj (show some t = some x from hx)]⟩
end Go.Proofs.YtpobcaopfeddgaaDoor

/- Bytes as strings, compared; positions compared. -/
namespace Go.Proofs.YtpobcaopfeddgaaDoor
open Go.RowKit Go.Shelf Go.Sort Go.Maps Go.WideMaps

/-- a list of bytes as a string -/
def strN (zs : List Nat) : ByteArray := strOfNums (zs.map fun n : Nat => (n : Int))
theorem byt_string {w : World} {a : Option Addr} {len : Nat} {zs : List Nat} (h : Byt w a len zs) (cap : Nat) (src dst e : TypeId) (hs : Tryd.prog.underlying src = some (.slice e)) (he : Tryd.prog.underlying e = some (.int .u8)) (hd : Tryd.prog.underlying dst = some .string) :
    (convert src dst (.slice a len cap)).run Tryd.prog w = .ok (.string (strN zs)) w := by
  by_cases h0 : len = 0
  · subst h0
    obtain rfl : zs = [] := List.eq_nil_of_length_eq_zero h.length
    cases a with
    | none => exact run_convert_bytes_nil w src e hs he 0 cap dst hd
    | some a =>
      have hl : (loadCells a 0).run Tryd.prog w = .ok (([] : List Int).map (Value.int .u8)).toArray w := by
        have := run_loadCells_list (P := Tryd.prog) w a [] (fun j v hj => by simp at hj)
        simpa using this
      rw [run_convert_bytes_string w src dst e _ 0 cap hs he hd, run_bytesToString w _ 0 cap [] hl]
      rfl
  · obtain ⟨b, off, rfl, hb, hc⟩ := h.at (by omega)
    refine run_convert_bytes_arg w src e hs he b off len cap (zs.map fun n : Nat => (n : Int)) (by rw [List.length_map]; exact h.length) (fun i hi => ?_) dst hd
    rw [hc i hi]
    have hl := h.length
    rw [List.getD_eq_getElem?_getD, List.getD_eq_getElem?_getD, List.getElem?_map, List.getElem?_eq_getElem (by omega)]
    rfl
theorem law15_sameCards (zs : List Nat) (a b : Option Addr) (n m ca cb : Nat) (w : World) (ha : Byt w a n zs) (hb : Byt w b m zs) :
    Calls Tryd.prog 26 #[.slice a n ca, .slice b m cb] w fun e w' => e = .returned (.bool true) ∧ w = w' := by
  have h1 := byt_string ha ca 25 9 5 Tryd.underlying25 Tryd.underlying5 Tryd.underlying9
  have h2 := byt_string hb cb 25 9 5 Tryd.underlying25 Tryd.underlying5 Tryd.underlying9
  go_enter Tryd.func26, Tryd.ntmps26
  go_wp2
  go_ret
  exact ⟨rfl, rfl⟩
theorem eq_dealR (h : Nat → Nat) (w : World) : Sem.run Tryd.prog (Op.equalIn 10000 24 (.agg #[.int .u64 (h 0 : Int), .int .u64 (h 1 : Int), .int .u64 (h 2 : Int), .int .u64 (h 3 : Int)]) (.agg #[.int .u64 (h 0 : Int), .int .u64 (h 1 : Int), .int .u64 (h 2 : Int), .int .u64 (h 3 : Int)])) w = .ok true w := by
  obtain ⟨i, hi⟩ : ∃ i, Tryd.prog.info? 22 = some i := by
    have h : (Tryd.prog.info? 22).isSome = true := by kernel_rfl
    exact Option.isSome_iff_exists.1 h
  rw [run_equalIn_array (P := Tryd.prog) w 9999 _ _ Tryd.underlying24 hi]
  have kc : Tryd.prog.cellsOf 22 = 1 := by kernel_rfl
  rw [kc]
  refine eqItems_refl _ _ _ _ _ (fun i hi w => ?_) w
  have he := fun z => run_equalIn_int (P := Tryd.prog) w 9998 22 .u64 .u64 z z Tryd.underlying22
  simp only [beq_self_eq_true] at he
  have hi2 : i < 4 := List.mem_range.1 hi
  rcases (show i = 0 ∨ i = 1 ∨ i = 2 ∨ i = 3 by omega) with rfl | rfl | rfl | rfl
  · exact ⟨.int .u64 (h 0 : Int), by kernel_rfl, he _⟩
  · exact ⟨.int .u64 (h 1 : Int), by kernel_rfl, he _⟩
  · exact ⟨.int .u64 (h 2 : Int), by kernel_rfl, he _⟩
  · exact ⟨.int .u64 (h 3 : Int), by kernel_rfl, he _⟩
set_option maxHeartbeats 2000000 in
theorem law15_same (h : Nat → Nat) (tr ld : Nat) (zs : List Nat) (a b : Option Addr) (n m ca cb : Nat) (w : World) (ha : Byt w a n zs) (hb : Byt w b m zs) :
    Calls Tryd.prog 27 #[.agg (posA h tr ld (.slice a n ca)), .agg (posA h tr ld (.slice b m cb))] w fun e w' => e = .returned (.bool true) ∧ Below w.heap.size w w' := by
  have heq := fun W => eq_dealR h W
  have HB := Lib.hid (((Below.refl w.heap.size w).alloc (Nat.le_refl _) (.cells (posA h tr ld (.slice a n ca)) 27)).alloc (by rw [World.size_alloc]; omega) (.cells (posA h tr ld (.slice b m cb)) 50))
  have HSC := Lib.hid (law15_sameCards zs a b n m ca cb _ (ha.below (Nat.le_refl _) HB.out) (hb.below (Nat.le_refl _) HB.out))
  clear ha hb
  unfold posA at HB HSC ⊢
  go_enter Tryd.func27, Tryd.ntmps27
  go_wp2_with fail
  refine HSC.out.mono ?_
  rintro e w2 ⟨rfl, rfl⟩
  go_wp2_with fail
  go_ret
  exact ⟨rfl, HB.out⟩
end Go.Proofs.YtpobcaopfeddgaaDoor

/- finesselaw15.theirs, a position as one of the reference. -/
namespace Go.Proofs.YtpobcaopfeddgaaDoor
open Go.RowKit Go.Shelf Go.Sort Go.Maps Go.WideMaps

/-- append(v, src...), v the call's own, src any slice of bytes, as an operation -/
theorem ok_appB {o : Oper} {ρ : Operand → Value} {w : World} {R : Value → World → Prop} (s x : Operand)
    (ho : o.op = .call { callee := .builtin .append, args := #[s, x], argTypes := #[25, 25] })
    (base : Nat) (v : Value) (zs ys : List Nat) (hs : ρ s = v) (hown : OwnU w base v zs) (ad : Option Addr) (m c : Nat) (hx : ρ x = .slice ad m c) (hy : Byt w ad m ys)
    (hbytes : zs.length + m ≤ 140737488355328) (hbase : base ≤ w.heap.size)
    (h : ∀ v' w', OwnU w' base v' (zs ++ ys) → w.grownBy w' v.ownBlock → (v'.ownBlock = v.ownBlock ∨ v'.ownBlock = some w.heap.size) → R v' w') : OpOk Tryd.prog o ρ w R := by
  by_cases hm : m = 0
  · subst hm
    obtain rfl : ys = [] := List.eq_nil_of_length_eq_zero hy.length
    obtain ⟨i0, hi, hz0, hz1, hz2⟩ := info_parts info_u8'
    rcases hown.form with ⟨rfl, rfl⟩ | ⟨g, cap, rfl, h1, h2, h3, h4⟩
    · have hr := run_append_nothing (P := Tryd.prog) w 25 25 o.type 5 i0 Tryd.underlying25 hi none 0 0 (Nat.le_refl _) (.slice ad 0 c) (src_empty Tryd.underlying25 ad c w)
      refine ok_value (v := .slice none 0 0) (w' := w) ?_ (h _ w (by rw [List.append_nil]; exact hown) ⟨rfl, rfl, rfl, Nat.le_refl _, fun _ _ _ => rfl⟩ (.inl rfl))
      unfold execOp
      simp only [ho, resolve, invoke, builtin, Sem.run_bind, Sem.run_pure, Result.andThen_ok, List.map_toArray, List.map_cons, List.map_nil, hs, hx, hr]
    · have hr := run_append_nothing (P := Tryd.prog) w 25 25 o.type 5 i0 Tryd.underlying25 hi (some ⟨g, 0, none⟩) zs.length cap h3 (.slice ad 0 c) (src_empty Tryd.underlying25 ad c w)
      refine ok_value (v := .slice (some ⟨g, 0, none⟩) zs.length cap) (w' := w) ?_ (h _ w (by rw [List.append_nil]; exact hown) ⟨rfl, rfl, rfl, Nat.le_refl _, fun _ _ _ => rfl⟩ (.inl rfl))
      unfold execOp
      simp only [ho, resolve, invoke, builtin, Sem.run_bind, Sem.run_pure, Result.andThen_ok, List.map_toArray, List.map_cons, List.map_nil, hs, hx, hr]
  · obtain ⟨b, off, rfl, -, -⟩ := hy.at (by omega)
    obtain ⟨i0, hi, hz0, hz1, hz2⟩ := info_parts info_u8'
    have hl := hy.length
    obtain ⟨v', w', hr, h1, h3, h5, h4⟩ := run_append_own_at (P := Tryd.prog) (w := w) base 25 o.type 5 i0 (.int .u8 0) 1 1 Tryd.underlying25 hi hz0 hz1 hz2 rfl (by decide) v zs.length (zs.flatMap encU) hown.2 ⟨b, off, none⟩ m c (ys.flatMap encU) (by rw [flatU_len]; omega) (byt_row hy ⟨b, off, none⟩ rfl) (flatU_one ys) (by unfold maxLen; omega) (by omega) hbase
    refine ok_value (v := v') (w' := w') ?_ (h v' w' ⟨encU_len, ?_⟩ h3 h4)
    · unfold execOp
      simp only [ho, resolve, invoke, builtin, Sem.run_bind, Sem.run_pure, Result.andThen_ok, List.map_toArray, List.map_cons, List.map_nil, hs, hx, hr]
    · rw [List.length_append, List.flatMap_append, hl]
      exact h1
set_option maxHeartbeats 2000000 in
set_option maxRecDepth 10000 in
theorem law15_theirs (h : Nat → Nat) (tr ld : Nat) (ps : List Nat) (a : Option Addr) (n cap : Nat) (w : World) (hz : Byt w a n ps) :
    Calls Tryd.prog 25 #[.agg (posA h tr ld (.slice a n cap))] w fun e w' => ∃ v, e = .returned (.agg (posA h tr ld v)) ∧ OwnU w' w.heap.size v ps ∧ Below w.heap.size w w' := by
  have HZ := Lib.hid hz
  have HB := Lib.hid (((Below.refl w.heap.size w).alloc (Nat.le_refl _) (.cells (posA h tr ld (.slice a n cap)) 27)).alloc (by rw [World.size_alloc]; omega) (.cells zeroP 50))
  have HR1 := Lib.hid ((Row.new w 27 (posA h tr ld (.slice a n cap))).alloc (.cells zeroP 50))
  have HR2 := Lib.hid (Row.new1 w (.cells (posA h tr ld (.slice a n cap)) 27) 50 zeroP)
  clear hz
  go_enter Tryd.func25, Tryd.ntmps25
  go_upto_region 1 with fail
  generalize (w.alloc (.cells (posA h tr ld (.slice a n cap)) 27)).alloc (.cells zeroP 50) = w1 at *
  obtain ⟨b1, hb1⟩ : ∃ b, w.heap.size = b := ⟨_, rfl⟩
  rw [hb1] at HR1 HR2 ⊢
  obtain ⟨b2, hb2⟩ : ∃ b, b1 + 1 = b := ⟨_, rfl⟩
  rw [hb2] at HR2 ⊢
  have HBB := Lib.hid (And.intro hb1 hb2)
  clear hb1 hb2
  refine wp_region_reliesS (ChF [.pointer (some ⟨b1, 0, none⟩), .agg #[.int .u64 (h 0 : Int), .int .u64 (h 1 : Int), .int .u64 (h 2 : Int), .int .u64 (h 3 : Int)], .pointer (some ⟨b1, 4, none⟩), .int .u8 (tr : Int), .pointer (some ⟨b1, 5, none⟩), .int .u8 (ld : Int), undef, .pointer (some ⟨b1, 6, none⟩), .slice a n cap, undef, undef, undef] [6, 9, 10, 11] []
    (fun vs _ W => (Below w.heap.size w W ∧ Row W b1 27 (posA h tr ld (.slice a n cap))) ∧ match vs with
      | [] => Row W b2 50 zeroP
      | [x] => Row W b2 50 zeroP ∧ OwnU W w.heap.size x []
      | [_, y] => Row W b2 50 zeroP ∧ OwnU W w.heap.size y ps
      | [_, y, z] => Row W b2 50 zeroP ∧ OwnU W w.heap.size y ps ∧ z = .agg (posA h tr ld y)
      | [_, y, _, _] => Row W b2 50 (posA h tr ld y) ∧ OwnU W w.heap.size y ps
      | _ => False)) (by kernel_rfl) (by kernel_rfl) (by kernel_rfl) (by kernel_rfl) (ChF.start ⟨⟨HB.out.drew, HR1.out.later (Below.refl _ _).drew⟩, HR2.out.later (Below.refl _ _).drew⟩) ?obls ?fini
  case obls =>
    refine ⟨?_, ?_, ?_, ?_, ?_, ?_, ?_, ?_, ?_, ?_, ?_, ?_, trivial⟩
    · rintro ρ f W ⟨vs, us, hX⟩ hfi hw hcl hf
      have f1 : ρ (.tmp 1) = .pointer (some ⟨b1, 0, none⟩) := hf.1 1 (by simp [Op.operands])
      exact ok_value (v := .pointer (some ⟨b1, 0, none⟩)) (w' := W) (by simp [execOp, f1, go_sem]) (hX.pure 0 _ (by decide) (by decide) rfl hX.st)
    · rintro ρ f W ⟨vs, us, hX⟩ hfi hw hcl hf
      have f3 : ρ (.tmp 3) = .pointer (some ⟨b1, 0, none⟩) := hX.val 0 _ _ (by decide) (by decide) (hf.1 3 (by simp [Op.operands])) rfl
      have c0 := hX.st.1.2.cell 0
      have c1 := hX.st.1.2.cell 1
      have c2 := hX.st.1.2.cell 2
      have c3 := hX.st.1.2.cell 3
      simp only [posA, List.getElem?_toArray, List.getElem?_cons_zero, List.getElem?_cons_succ] at c0 c1 c2 c3
      exact ok_value (v := .agg #[.int .u64 (h 0 : Int), .int .u64 (h 1 : Int), .int .u64 (h 2 : Int), .int .u64 (h 3 : Int)]) (w' := W) (by simp [execOp, f3, go_sem, c0, c1, c2, c3]) (hX.pure 1 _ (by decide) (by decide) rfl hX.st)
    · rintro ρ f W ⟨vs, us, hX⟩ hfi hw hcl hf
      have f1 : ρ (.tmp 1) = .pointer (some ⟨b1, 0, none⟩) := hf.1 1 (by simp [Op.operands])
      exact ok_value (v := .pointer (some ⟨b1, 4, none⟩)) (w' := W) (by simp [execOp, f1, go_sem]) (hX.pure 2 _ (by decide) (by decide) rfl hX.st)
    · rintro ρ f W ⟨vs, us, hX⟩ hfi hw hcl hf
      have f5 : ρ (.tmp 5) = .pointer (some ⟨b1, 4, none⟩) := hX.val 2 _ _ (by decide) (by decide) (hf.1 5 (by simp [Op.operands])) rfl
      have c4 : W.cell? ⟨b1, 4, none⟩ = some (.int .u8 (tr : Int)) := hX.st.1.2.cell 4
      exact ok_value (v := .int .u8 (tr : Int)) (w' := W) (by simp [execOp, f5, go_sem, c4]) (hX.pure 3 _ (by decide) (by decide) rfl hX.st)
    · rintro ρ f W ⟨vs, us, hX⟩ hfi hw hcl hf
      have f1 : ρ (.tmp 1) = .pointer (some ⟨b1, 0, none⟩) := hf.1 1 (by simp [Op.operands])
      exact ok_value (v := .pointer (some ⟨b1, 5, none⟩)) (w' := W) (by simp [execOp, f1, go_sem]) (hX.pure 4 _ (by decide) (by decide) rfl hX.st)
    · rintro ρ f W ⟨vs, us, hX⟩ hfi hw hcl hf
      have f7 : ρ (.tmp 7) = .pointer (some ⟨b1, 5, none⟩) := hX.val 4 _ _ (by decide) (by decide) (hf.1 7 (by simp [Op.operands])) rfl
      have c5 : W.cell? ⟨b1, 5, none⟩ = some (.int .u8 (ld : Int)) := hX.st.1.2.cell 5
      exact ok_value (v := .int .u8 (ld : Int)) (w' := W) (by simp [execOp, f7, go_sem, c5]) (hX.pure 5 _ (by decide) (by decide) rfl hX.st)
    · rintro ρ f W ⟨vs, us, hX⟩ hfi hw hcl hf
      have hl := hX.le1 0 6 rfl hfi
      obtain rfl := list0 hl
      obtain ⟨⟨hB, hR1⟩, hR2⟩ := hX.st
      have hsz := hB.size
      refine ok_value (v := .slice (some ⟨W.heap.size, 0, none⟩) 0 0) (w' := W.alloc (.cells #[] 5)) (by simp [execOp, go_sem]) (hX.step1 6 _ rfl (by decide) (by decide) ⟨⟨hB.alloc hsz _, hR1.alloc _⟩, hR2.alloc _, ownU_made0 W _ hsz⟩)
    · rintro ρ f W ⟨vs, us, hX⟩ hfi hw hcl hf
      have f1 : ρ (.tmp 1) = .pointer (some ⟨b1, 0, none⟩) := hf.1 1 (by simp [Op.operands])
      exact ok_value (v := .pointer (some ⟨b1, 6, none⟩)) (w' := W) (by simp [execOp, f1, go_sem]) (hX.pure 7 _ (by decide) (by decide) rfl hX.st)
    · rintro ρ f W ⟨vs, us, hX⟩ hfi hw hcl hf
      have f10 : ρ (.tmp 10) = .pointer (some ⟨b1, 6, none⟩) := hX.val 7 _ _ (by decide) (by decide) (hf.1 10 (by simp [Op.operands])) rfl
      have c6 : W.cell? ⟨b1, 6, none⟩ = some (.slice a n cap) := hX.st.1.2.cell 6
      exact ok_value (v := .slice a n cap) (w' := W) (by simp [execOp, f10, go_sem, c6]) (hX.pure 8 _ (by decide) (by decide) rfl hX.st)
    · rintro ρ f W ⟨vs, us, hX⟩ hfi hw hcl hf
      have g9 := hX.get1 0 6 rfl (hf.1 9 (by simp [Op.operands, Call.operands]))
      have f11 : ρ (.tmp 11) = .slice a n cap := hX.val 8 _ _ (by decide) (by decide) (hf.1 11 (by simp [Op.operands, Call.operands])) rfl
      have hl := hX.le1 1 9 rfl hfi
      obtain rfl := list1 hl g9
      obtain ⟨⟨hB, hR1⟩, hR2, hO⟩ := hX.st
      refine ok_appB (.tmp 9) (.tmp 11) rfl w.heap.size _ [] ps rfl hO a n cap f11 (HZ.out.below (Nat.le_refl _) hB) (by have := HZ.out.small; simp; omega) hB.size fun v' w' ho hg hnew => ?_
      have hne : ∀ {b : Nat} {t : TypeId} {cs : Array Value}, Row W b t cs → t ≠ 5 → Row w' b t cs := fun hr ht => hr.grown hg fun e => own_apart hO hr ht e.symm
      exact hX.step1 9 _ rfl (by decide) (by decide) ⟨⟨(hB.grown hg hB.size (fun k hk => (World.ownsRow.lt hO.2 k hk).1)), hne hR1 (by decide)⟩, hne hR2 (by decide), ho⟩
    · rintro ρ f W ⟨vs, us, hX⟩ hfi hw hcl hf
      have f4 : ρ (.tmp 4) = .agg #[.int .u64 (h 0 : Int), .int .u64 (h 1 : Int), .int .u64 (h 2 : Int), .int .u64 (h 3 : Int)] := hX.val 1 _ _ (by decide) (by decide) (hf.1 4 (by simp [Op.operands])) rfl
      have f6 : ρ (.tmp 6) = .int .u8 (tr : Int) := hX.val 3 _ _ (by decide) (by decide) (hf.1 6 (by simp [Op.operands])) rfl
      have f8 : ρ (.tmp 8) = .int .u8 (ld : Int) := hX.val 5 _ _ (by decide) (by decide) (hf.1 8 (by simp [Op.operands])) rfl
      have g12 := hX.get1 1 9 rfl (hf.1 12 (by simp [Op.operands]))
      have hl := hX.le1 2 10 rfl hfi
      obtain ⟨x, rfl⟩ := list2 hl g12
      obtain ⟨hA, hR2, hO⟩ := hX.st
      obtain ⟨y, hy⟩ : ∃ y, ρ (.tmp 12) = y := ⟨_, rfl⟩
      rw [hy] at hO
      obtain ⟨ya, yc, hye, -⟩ := hO.slice
      refine ok_value (v := .agg (posA h tr ld y)) (w' := W) (by rw [hye] at hy ⊢; simp [execOp, f4, f6, f8, hy, go_sem, posA]) (hX.step1 10 _ rfl (by decide) (by decide) (by rw [hy]; exact ⟨hA, hR2, hO, rfl⟩))
    · rintro ρ f W ⟨vs, us, hX⟩ hfi hw hcl hf
      have f2 : ρ (.tmp 2) = .pointer (some ⟨b2, 0, none⟩) := hf.1 2 (by simp [Op.operands])
      have g13 := hX.get1 2 10 rfl (hf.1 13 (by simp [Op.operands]))
      have hl := hX.le1 3 11 rfl hfi
      obtain ⟨x, y, rfl⟩ := list3 hl g13
      obtain ⟨hA, hR2, hO, hz⟩ := hX.st
      obtain ⟨ya, yc, rfl, -⟩ := hO.slice
      refine ok_skip (exec_store_row 50 (.tmp 2) (.tmp 13) rfl b2 (posA h tr ld (.slice ya ps.length yc)) f2 hz hR2 size_rpos rfl (by simp [posA, Value.oneCell'])) (hX.step1 11 _ rfl (by decide) (by decide) ⟨⟨below_setRow hA.1 (by have := HBB.out; omega) _, hA.2.same (setRow_other _ _ _ _ (by have := HBB.out; omega))⟩, setRow_heap _ _ _ _ _ _ hR2, hO.row hR2 (by decide) _⟩)
  case fini =>
    rintro us w2 hlen ⟨vs, us', hX⟩
    have hl0 : us.length = 12 := hlen
    match us, hl0 with
    | [u0, u1, u2, u3, u4, u5, u6, u7, u8, u9, u10, u11], _ =>
      have g11 := hX.get1 3 11 rfl (v := u11) rfl
      have hl1 := hX.l1
      obtain ⟨x, y, z, rfl⟩ := list4 hl1 g11
      obtain ⟨⟨hB, -⟩, hR, hO⟩ := hX.st
      have HB2 := Lib.hid hB
      have HR := Lib.hid hR
      have HO := Lib.hid hO
      obtain ⟨ya, yc, rfl, -⟩ := hO.slice
      clear hB hR hO hX g11 hl1 hlen
      simp only [putAll, List.zip_cons_cons, List.zip_nil_right, List.foldl_cons, List.foldl_nil]
      simp only [Act.put, List.setIfInBounds_toArray, List.set_cons_succ, List.set_cons_zero]
      go_wp2_with fail
      refine bodyPost_ret (v := .agg (posA h tr ld (.slice ya ps.length yc))) (results_cell1 Tryd.results25 _ _ b2 _ _ (0, 0) _ rfl HR.out Tryd.underlying50 rfl size_rpos) rfl ⟨_, rfl, HO.out, HB2.out⟩
end Go.Proofs.YtpobcaopfeddgaaDoor

/- The reference of chapter 15 over this seat's program: Choices. -/
namespace Go.Proofs.YtpobcaopfeddgaaDoor
open Go.RowKit Go.Shelf Go.Sort Go.Maps Go.WideMaps

/-- a slice of the reference's choices -/
abbrev OwnD (w : World) (base : Nat) (v : Value) (l : List (Nat × Nat)) : Prop := Owns encC 2 65 w base v l
theorem info_rch : (Tryd.prog.info? 65).map (fun i => (i.zero, i.size, i.bytes)) = some (some (.agg #[.int .u8 0, .int .i64 0]), 2, 16) := by kernel_rfl
/-- the cards that can be played from t, each with its tricks, where m cards are left behind it -/
def chsV (tr m : Nat) (t : Tb) (k : Nat) : List (Nat × Nat) := ((List.range k).filter t.legal).map fun c => (c, (t.put tr c).2 + val tr m (t.put tr c).1)
theorem chsV_succ (tr m : Nat) (t : Tb) (k : Nat) : chsV tr m t (k + 1) = if t.legal k then chsV tr m t k ++ [(k, (t.put tr k).2 + val tr m (t.put tr k).1)] else chsV tr m t k := by
  unfold chsV
  rw [List.range_succ, List.filter_append, List.map_append]
  cases h : t.legal k <;> simp [h]
theorem chsV_len (tr m : Nat) (t : Tb) (k : Nat) : (chsV tr m t k).length ≤ k := by
  unfold chsV
  rw [List.length_map]
  exact Nat.le_trans (List.length_filter_le _ _) (by rw [List.length_range]; exact Nat.le_refl _)
set_option maxHeartbeats 4000000 in
set_option maxRecDepth 10000 in
theorem dr_Choices (tr : Nat) (htr : tr < 256) (m q : Nat) (t : Tb) (H : PosT q t) (hm : m + t.cs.length = 4 * q) (a : Option Addr) (cap : Nat) (w : World) (hz : Byt w a t.cs.length t.cs) :
    Calls Tryd.prog 30 #[.agg (posA t.h tr t.ld (.slice a t.cs.length cap))] w fun e w' => ∃ v, e = .returned v ∧ OwnD w' w.heap.size v (t.cards.map fun c => (c, (t.put tr c).2 + val tr (m - 1) (t.put tr c).1)) ∧ Below w.heap.size w w' := by
  have hk := H.ok
  have hmem : ∀ c, t.legal c = true → c ∈ t.cards := fun c hc => mem_cards.2 ⟨hk.pk.1 _ t.turn_lt _ (legal_iff.1 hc).1, hc⟩
  have hpos : ∀ c, t.legal c = true → 0 < m := fun c hc => by
    have hl := hk.pk.2
    rcases Nat.eq_zero_or_pos m with h0 | h0
    · have hq0 : q = 0 := by omega
      have h2 := H.evn.turn hl
      have h1 := (legal_iff.1 hc).1
      have h3 := pop_some (show c < 64 from by have := hk.pk.1 _ t.turn_lt _ h1; omega) h1
      have h4 : pop (t.h t.turn) = q := h2
      omega
    · exact h0
  have HLE := Lib.hid (fun c (hc : c < 256) W hzW => dr_Legal t.h tr t.ld t.cs a cap c hk.w64 (by have := hk.ld; omega) hc W hzW)
  have HAF := Lib.hid (fun c hl W hzW => dr_After t hk H.uniq tr c htr hl a cap W hzW)
  have HRE := Lib.hid (fun c (hc : t.legal c = true) W a cap hzW => by
    obtain ⟨q', hp, -, -, hmq⟩ := H.put tr (hmem c hc)
    have := hpos c hc
    exact dr_Solve tr htr (m - 1) q' _ hp (hmq (m - 1) (by omega)) a cap W hzW)
  have HV : Hid (∀ c, t.legal c = true → (t.put tr c).2 + val tr (m - 1) (t.put tr c).1 ≤ 6) := Lib.hid (fun c hc => by
    have h1 := (legal_iff.1 hc).1
    have h0 := hpos c hc
    have hl := hk.pk.2
    have := worth_le tr (m - 1) q hl H.evn (by omega) (show c < 64 from by have := hk.pk.1 _ t.turn_lt _ h1; omega) h1
    have h6 := H.q6
    have e : worth tr (m - 1) t c = (t.put tr c).2 + val tr (m - 1) (t.put tr c).1 := rfl
    omega)
  have HPK := Lib.hid (fun c (hl : t.legal c = true) => ok_put hk (tr := tr) (show c < 52 from hk.pk.1 _ t.turn_lt _ (legal_iff.1 hl).1))
  have HVA : Hid (t.cards.map (fun c => (c, (t.put tr c).2 + val tr (m - 1) (t.put tr c).1)) = chsV tr (m - 1) t 52) := Lib.hid rfl
  have HVS := Lib.hid (fun k => chsV_succ tr (m - 1) t k)
  have HVN := Lib.hid (fun k => chsV_len tr (m - 1) t k)
  have HYZ := Lib.hid hz
  obtain ⟨PA, hPA⟩ : ∃ A, posA t.h tr t.ld (.slice a t.cs.length cap) = A := ⟨_, rfl⟩
  have HPZ : Hid (PA.size = 7) := Lib.hid (by rw [← hPA]; rfl)
  rw [hPA] at HLE HAF ⊢
  have HR1 := Lib.hid (Row.new w 50 PA)
  have HB1 := Lib.hid ((Below.refl w.heap.size w).alloc (Nat.le_refl _) (.cells PA 50))
  rw [HVA.out]
  generalize m - 1 = m1 at *
  clear hPA hz hk H hmem hpos hm HVA
  go_enter Tryd.func30, Tryd.ntmps30
  go_upto_region 3 with fail
  generalize w.alloc (.cells PA 50) = w1 at *
  obtain ⟨b1, hb1⟩ : ∃ b, w.heap.size = b := ⟨_, rfl⟩
  have HBS := Lib.hid hb1
  rw [hb1] at HR1 ⊢
  clear hb1
  go_wp2_with fail
  go_loopg [3, 4] 52 (fun g lv ci wr => ∃ (k : Nat) (v : Value), g = 52 - k ∧ k ≤ 52 ∧ ci = .int .i64 (k : Int) ∧ lv = v ∧ OwnD wr w.heap.size v (chsV tr m1 t k) ∧ Row wr b1 50 PA ∧ Below w.heap.size w wr)
  case atStart => exact ⟨0, _, rfl, by omega, rfl, rfl, Owns.nil encC_len _ _, HR1.out, HB1.out⟩
  case round =>
    obtain ⟨k, lv, rfl, hk, rfl, rfl, hown, hrow, hbl⟩ := hrel
    have HOW := Lib.hid hown
    have HRW := Lib.hid hrow
    have HBL := Lib.hid hbl
    clear hown hrow hbl
    by_cases hlt : k < 52
    · have hki : (k : Int) < 52 := by omega
      have HL1 := Lib.hid (HLE.out k (by omega) wr (HYZ.out.below (Nat.le_refl _) HBL.out))
      cases hleg : Tb.legal ⟨t.h, t.ld, t.cs⟩ k
      · rw [hleg] at HL1
        have HX : Hid (chsV tr m1 t (k + 1) = chsV tr m1 t k) := Lib.hid ((HVS.out k).trans (if_neg (by rw [show t.legal k = false from hleg]; exact Bool.false_ne_true)))
        clear hleg
        go_wp2_with (refine wpList_load_row rfl 50 (.tmp 1) rfl b1 rfl 50 PA (0, 0) _ HRW.out Tryd.underlying50 rfl (by rw [HPZ.out]; exact size_rpos) ?_)
        refine HL1.out.mono ?_
        rintro e w3 ⟨rfl, hb3⟩
        have HR3 := Lib.hid (HRW.out.later hb3)
        have HO3 := Lib.hid (HOW.out.below hb3)
        have HB3 := Lib.hid (HBL.out.trans (hb3.mono HBL.out.size))
        clear hb3
        go_wp2_with fail
        go_roundg (52 - (k + 1))
        case measure => omega
        case rel => exact ⟨k + 1, _, rfl, by omega, by simp, rfl, by rw [HX.out]; exact HO3.out, HR3.out, HB3.out⟩
      · rw [hleg] at HL1
        have HLG := Lib.hid (show t.legal k = true from hleg)
        clear hleg
        obtain ⟨⟨u, won⟩, hu⟩ : ∃ u, t.put tr k = u := ⟨_, rfl⟩
        obtain ⟨x, hx⟩ : ∃ x, val tr m1 (t.put tr k).1 = x := ⟨_, rfl⟩
        have hx6 : won + x ≤ 6 := by have := HV.out k HLG.out; rw [hx, hu] at this; exact this
        have HX : Hid (chsV tr m1 t (k + 1) = chsV tr m1 t k ++ [(k, won + x)]) := Lib.hid ((HVS.out k).trans ((if_pos HLG.out).trans (by rw [hx, hu])))
        have HAK := Lib.hid (HAF.out k HLG.out)
        have HRK := Lib.hid (HRE.out k HLG.out)
        have HOK := Lib.hid (HPK.out k HLG.out)
        rw [hx] at HRK
        rw [hu] at HAK HRK HOK
        clear hu hx
        go_wp2_with (refine wpList_load_row rfl 50 (.tmp 1) rfl b1 rfl 50 PA (0, 0) _ HRW.out Tryd.underlying50 rfl (by rw [HPZ.out]; exact size_rpos) ?_)
        refine HL1.out.mono ?_
        rintro e w3 ⟨rfl, hb3⟩
        have HR3 := Lib.hid (HRW.out.later hb3)
        have HO3 := Lib.hid (HOW.out.below hb3)
        have HB3 := Lib.hid (HBL.out.trans (hb3.mono HBL.out.size))
        clear hb3
        go_wp2_with (refine wpList_load_row rfl 50 (.tmp 1) rfl b1 rfl 50 PA (0, 0) _ HR3.out Tryd.underlying50 rfl (by rw [HPZ.out]; exact size_rpos) ?_)
        refine (HAK.out w3 (HYZ.out.below (Nat.le_refl _) HB3.out)).mono ?_
        rintro e w4 ⟨v, rfl, hov, hb4⟩
        have HR4 := Lib.hid (HR3.out.later hb4)
        have HO4 := Lib.hid (HO3.out.below hb4)
        have HB4 := Lib.hid (HB3.out.trans (hb4.mono HB3.out.size))
        obtain ⟨va, vc, e, -, -, -, -, hby⟩ := hov.byt (by have := HOK.out.pk.2; omega) fun i => by have := HOK.out.getD i; omega
        subst e
        have HBY := Lib.hid hby
        clear hb4 hov hby
        have HQZ : Hid ((posA u.h tr u.ld (.slice va u.cs.length vc)).size = 7 ∧ (posA u.h tr u.ld (.slice va u.cs.length vc)).all (·.oneCell') = true) := Lib.hid ⟨rfl, by simp [posA, Value.oneCell']⟩
        obtain ⟨QA, hQA⟩ : ∃ A, posA u.h tr u.ld (.slice va u.cs.length vc) = A := ⟨_, rfl⟩
        have HRC := Lib.hid (fun W h => HRK.out W va vc h)
        rw [hQA] at HQZ HRC ⊢
        clear hQA
        have HN5 := Lib.hid (Row.new w4 50 zeroP)
        have ha := below_setRow ((Below.refl w4.heap.size w4).alloc (Nat.le_refl _) (.cells zeroP 50)) (Nat.le_refl _) QA
        have hr : Row ((w4.alloc (.cells zeroP 50)).setRow w4.heap.size QA) w4.heap.size 50 QA := setRow_heap _ _ _ _ _ _ HN5.out
        have HR5 := Lib.hid (HR4.out.later ha)
        have HO5 := Lib.hid (HO4.out.below ha)
        have HRq := Lib.hid hr
        have HB5 := Lib.hid (HB4.out.trans (ha.mono HB4.out.size))
        have HBY5 := Lib.hid (HBY.out.below (Nat.le_refl _) ha)
        clear ha hr
        go_upto_region 7 with (refine wpList_store_row rfl 50 (.tmp 5) (.tmp 18) rfl w4.heap.size QA rfl rfl 50 _ HN5.out (by rw [HQZ.out.1]; exact size_rpos) (by rw [HQZ.out.1]; rfl) HQZ.out.2 ?_)
        try dsimp only [Act.put]
        generalize (w4.alloc (.cells zeroP 50)).setRow w4.heap.size QA = w5 at *
        generalize w4.heap.size = b5 at *
        go_wp2_with (refine wpList_load_row rfl 50 (.tmp 5) rfl b5 rfl 50 QA (0, 0) _ HRq.out Tryd.underlying50 rfl (by rw [HQZ.out.1]; exact size_rpos) ?_)
        refine (HRC.out w5 HBY5.out).mono ?_
        rintro e w6 ⟨rfl, hb6⟩
        have HR6 := Lib.hid (HR5.out.later hb6)
        have HO6 := Lib.hid (HO5.out.below hb6)
        have HB6 := Lib.hid (HB5.out.trans (hb6.mono HB5.out.size))
        clear hb6 HRq HR5 HB5 HBY5 HBY HN5
        obtain ⟨y, hy⟩ : ∃ y, won + x = y := ⟨_, rfl⟩
        have hyi : (won : Int) + (x : Int) = (y : Int) := by omega
        have hy6 : y ≤ 6 := by omega
        rw [hy] at HX
        clear hy
        have HNEW := Lib.hid (Row.new w6 65 #[.int .u8 (k : Int), .int .i64 (y : Int)])
        have hsz : w.heap.size ≤ (w6.alloc (.cells #[.int .u8 (k : Int), .int .i64 (y : Int)] 65)).heap.size := by rw [World.size_alloc]; have := HB6.out.size; omega
        go_wp2_with (at_builtin; refine appO rfl (.tmp 20) (.tmp 28) 62 rfl Tryd.underlying62 _ 16 info_rch (by decide) rfl (by decide) encC_one w.heap.size _ (chsV tr m1 t k) [(k, y)] rfl (HO6.out.alloc _) ⟨w6.heap.size, 0, none⟩ 1 1 rfl rfl (fun j z hz => by
          have hc := HNEW.out.cell j
          have hj : j < 2 := (List.getElem?_eq_some_iff.1 hz).1
          rcases (show j = 0 ∨ j = 1 by omega) with rfl | rfl
          · exact hc.trans hz
          · exact hc.trans hz) (by have := HVN.out k; omega) hsz ?_)
        intro v' w7 ho7 hb7 hg7 hv7
        have hneb : ∀ {b : Nat} {T' : TypeId} {cs : Array Value}, Row w6 b T' cs → T' ≠ 65 → Row w7 b T' cs := fun hr ht => (hr.alloc _).grown hg7 fun e => own_apart HO6.out hr ht e.symm
        have HR7 := Lib.hid (hneb HR6.out (by decide))
        have HO7 : Hid (OwnD w7 w.heap.size v' (chsV tr m1 t (k + 1))) := Lib.hid (by rw [HX.out]; exact ho7)
        have HB7 := Lib.hid ((HB6.out.alloc HB6.out.size _).trans hb7)
        clear ho7 hb7 hg7 hv7 hneb hsz
        go_wp2_with fail
        go_roundg (52 - (k + 1))
        case measure => omega
        case rel => exact ⟨k + 1, _, rfl, by omega, by simp, rfl, HO7.out, HR7.out, HB7.out⟩
    · obtain rfl : k = 52 := by omega
      simp only [show ((52 : Nat) : Int) = 52 from rfl]
      go_wp2_with fail
      go_ret
      exact ⟨_, rfl, HOW.out, HBL.out⟩
end Go.Proofs.YtpobcaopfeddgaaDoor
