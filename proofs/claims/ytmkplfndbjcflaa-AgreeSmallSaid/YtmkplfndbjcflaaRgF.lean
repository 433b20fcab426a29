/- Agreements handed to the reference: theirs, is, over this seat's program. -/
import Derived.Test.YtmkplfndbjcflaaRgE
import Derived.Test.YtmkplfndbjcflaaAgX
import Derived.Laws.StructEq
import Derived.ChangeKeysEq
namespace Go.Proofs.Ytmkplfndbjcflaa
open Go.RowKit Go.Sort Go.Shelf Cnt

/-- a slice of the reference's ranges, a call's own -/
abbrev OwnT (w : World) (base : Nat) (v : Value) (rs : List Rg) : Prop := Owns encR 10 56 w base v rs
theorem OwnT.rgs {w : World} {base : Nat} {v : Value} {rs : List Rg} (h : OwnT w base v rs) (hs : rs.length ≤ 100000) : ∃ a cap, v = .slice a rs.length cap ∧ Rgs w a rs.length rs ∧ rs.length ≤ cap ∧ (a = none → cap = 0) := by
  rcases h.2.2 with ⟨rfl, h0⟩ | ⟨g, cap, cur, rfl, hb, hg, hn, -, hsz, htk⟩
  · rw [h0]
    exact ⟨none, 0, rfl, ⟨h0, by omega, .inl rfl⟩, Nat.le_refl _, fun _ => rfl⟩
  · refine ⟨some ⟨g, 0, none⟩, cap, rfl, ⟨rfl, by omega, .inr ⟨g, 0, rfl, (Array.getElem?_eq_some_iff.1 hg).1, fun i r hr j hj => ?_⟩⟩, hn, fun e => by cases e⟩
    have h1 := flatR_get rs i j r hr hj
    have hi : i < rs.length := (List.getElem?_eq_some_iff.1 hr).1
    have e : World.cell? w ⟨g, 0 + i * 10 + j, none⟩ = cur[0 + i * 10 + j]? := by simp [World.cell?, hg]
    rw [e, Nat.zero_add]
    have htk' : cur.toList.take (rs.length * 10) = flatR rs := htk
    rw [← htk', List.getElem?_take_of_lt (by omega)] at h1
    simpa using h1
theorem info_rt : (Try.prog.info? 56).map (fun i => (i.zero, i.size, i.bytes)) = some (some (Rg.v ⟨0, 0, 0, 0, 0, 0, 0, 0, 0, 0⟩), 10, 80) := by kernel_rfl
theorem encR_one (r : Rg) : ∀ u ∈ encR r, u.oneCell' = true := by
  intro u hu
  simp only [encR, List.mem_cons, List.not_mem_nil, or_false] at hu
  rcases hu with rfl | rfl | rfl | rfl | rfl | rfl | rfl | rfl | rfl | rfl <;> rfl
/-- append(v, r) -/
theorem appT {w : World} {ops : Array Oper} {rest : List Oper} {o : Oper} {a : Act} {Q : Exit → Act → World → Prop} (hgd : o.guard = none) (s x : Operand)
    (ho : o.op = .call { callee := .builtin .append, args := #[s, x], argTypes := #[48, 48] })
    (base : Nat) (v : Value) (zs ys : List Rg) (hs : a.eval s = v) (hown : OwnT w base v zs) (ad : Addr) (m c : Nat) (hx : a.eval x = .slice (some ad) m c) (hy : Rgs w (some ad) m ys)
    (hbytes : zs.length + m ≤ 100000) (hbase : base ≤ w.heap.size)
    (h : ∀ v' w', OwnT w' base v' (zs ++ ys) → Below base w w' → w.grownBy w' v.ownBlock → (v'.ownBlock = v.ownBlock ∨ v'.ownBlock = some w.heap.size) → wpList Try.prog ops Q rest (a.put o.dst v') w') : wpList Try.prog ops Q (o :: rest) a w :=
  appO hgd s x 48 ho Try.underlying48 _ 80 info_rt (by decide) rfl (by decide) encR_one base v zs ys hs hown ad m c hx hy.length (rgs_row hy ad rfl) (by omega) hbase h

set_option maxHeartbeats 1000000 in
theorem law_theirs (a : Option Addr) (la ca : Nat) (ra : List Rg) (w : World) (ha : Rgs w a la ra) (hl : la ≤ 30) :
    Calls Try.prog 22 #[.slice a la ca] w fun e w' => (∃ v, e = .returned v ∧ OwnT w' w.heap.size v ra) ∧ Below w.heap.size w w' := by
  have HA := Lib.hid ha
  clear ha
  go_enter Try.func22, Try.ntmps22
  go_wp2_with fail
  go_loopw [3, 5, 8, 10, 11, 12, 13, 14, 15, 16] (fun v _ i _ _ _ _ _ _ _ wr => ∃ (k : Nat), k ≤ la ∧ i = .int .i64 (k : Int) ∧ Below w.heap.size w wr ∧ OwnT wr w.heap.size v (ra.take k)) (fun _ _ i _ _ _ _ _ _ _ _ => la - (intOf i).toNat)
  case atStart => exact ⟨0, by omega, rfl, Below.refl _ _, Owns.nil encR_len _ _⟩
  case round =>
    obtain ⟨k, hk, rfl, hB, hO⟩ := hrel
    by_cases hlt : k < la
    · obtain ⟨ba, offa, r, rfl, hbl, hr, c0, c1, c2, c3, c4, c5, c6, c7, c8, c9⟩ := (HA.out.below (Nat.le_refl _) hB).ten hlt
      have hd : decide ((k : Int) < (la : Int)) = true := by simp; omega
      have HRK := Lib.hid hr
      have HB' := Lib.hid hB
      have HO := Lib.hid hO
      have HTK : Hid (ra.take (k + 1) = ra.take k ++ [r]) := Lib.hid (by rw [List.take_add_one, hr]; rfl)
      have HLN : Hid ((ra.take k).length + 1 ≤ 100000) := Lib.hid (by rw [List.length_take]; omega)
      clear hr hB hO
      have HRW := Lib.hid (Row.new wr 39 r.arr)
      have HOA := Lib.hid ((HO.out.alloc (.cells r.arr 39)).alloc (.cells r.arr 56))
      have HRN : Hid (Rgs ((wr.alloc (.cells r.arr 39)).alloc (.cells r.arr 56)) (some ⟨wr.heap.size + 1, 0, none⟩) 1 [r]) := Lib.hid (by
        have := rgs_newT (wr.alloc (.cells r.arr 39)) r 56
        rwa [World.size_alloc] at this)
      have HBS : Hid (w.heap.size ≤ ((wr.alloc (.cells r.arr 39)).alloc (.cells r.arr 56)).heap.size) := Lib.hid (by have := HB'.out.size; simp; omega)
      have HBA := Lib.hid ((HB'.out.alloc HB'.out.size (.cells r.arr 39)).alloc (by have := HB'.out.size; simp; omega) (.cells r.arr 56))
      go_wp2_with (first
        | refine wpList_load_row rfl 39 (.tmp 5) rfl wr.heap.size rfl 39 r.arr (0, 0) _ HRW.out Try.underlying39 rfl (by rw [size39]; rfl) ?_
        | (refine appT rfl (.tmp 12) (.tmp 14) rfl w.heap.size u3 (ra.take k) [r] rfl HOA.out ⟨wr.heap.size + 1, 0, none⟩ 1 1 rfl HRN.out HLN.out HBS.out ?_; intro v' w7 h1 h2 h3 h4; have HB7 := Lib.hid (HBA.out.trans h2); have HO7 := Lib.hid h1; clear h1 h2 h3 h4))
      exact ⟨⟨k + 1, by omega, by simp, HB7.out, by rw [HTK.out]; exact HO7.out⟩, by simp [intOf]; omega⟩
    · obtain rfl : k = la := by omega
      have hd : decide ((k : Int) < (k : Int)) = false := by simp
      have HB' := Lib.hid hB
      have HO : Hid (OwnT wr w.heap.size u3 ra) := Lib.hid (by have h := hO; rw [List.take_of_length_le (by have := HA.out.length; omega)] at h; exact h)
      clear hB hO
      go_wp2_with fail
      exact bodyPost_ret (v := u3) (by simp [results, Try.results22, go_sem]) rfl ⟨⟨_, rfl, HO.out⟩, HB'.out⟩
theorem eqItems_refl {P : Program} (d : Nat) (e : TypeId) (c : Nat) (xs : Array Value) : ∀ (is : List Nat), (∀ i ∈ is, ∀ w, ∃ v, Sem.run P (part e xs (i * c)) w = .ok v w ∧ Sem.run P (Op.equalIn d e v v) w = .ok true w) → ∀ w, Sem.run P (Op.eqItems d e c xs xs is) w = .ok true w
  | [], _, w => by simp [Op.eqItems]
  | i :: is, h, w => by
    obtain ⟨v, h1, h2⟩ := h i (List.mem_cons_self ..) w
    have ih := eqItems_refl d e c xs is (fun j hj => h j (List.mem_cons_of_mem _ hj)) w
    rw [Op.eqItems, Sem.run_bind, h1, Result.andThen_ok, Sem.run_bind, h1, Result.andThen_ok, Sem.run_bind, h2, Result.andThen_ok]
    simpa using ih
theorem eq_pr (d : Nat) (x y : Int) (w : World) : Sem.run Try.prog (Op.equalIn (d + 2) 36 (pr x y) (pr x y)) w = .ok true w := by
  obtain ⟨i, hi⟩ : ∃ i, Try.prog.info? 3 = some i := by
    have h : (Try.prog.info? 3).isSome = true := by kernel_rfl
    exact Option.isSome_iff_exists.1 h
  rw [run_equalIn_array (P := Try.prog) w (d + 1) _ _ under36 hi]
  have kc : Try.prog.cellsOf 3 = 1 := by kernel_rfl
  rw [kc]
  refine eqItems_refl _ _ _ _ _ (fun i hi w => ?_) w
  have he := fun z => run_equalIn_int (P := Try.prog) w d 3 .i64 .i64 z z Try.underlying3
  simp only [beq_self_eq_true] at he
  have hi2 : i < 2 := List.mem_range.1 hi
  rcases (show i = 0 ∨ i = 1 by omega) with rfl | rfl
  · exact ⟨.int .i64 x, by kernel_rfl, he x⟩
  · exact ⟨.int .i64 y, by kernel_rfl, he y⟩
abbrev Rg.sarr (r : Rg) : Array Value := #[.int .i64 r.a0, .int .i64 r.a1, .int .i64 r.b0, .int .i64 r.b1, .int .i64 r.c0, .int .i64 r.c1, .int .i64 r.d0, .int .i64 r.d1]
theorem eq_sarr (d : Nat) (r : Rg) (w : World) : Sem.run Try.prog (Op.equalIn (d + 3) 37 (.agg r.sarr) (.agg r.sarr)) w = .ok true w := by
  obtain ⟨i, hi⟩ : ∃ i, Try.prog.info? 36 = some i := by
    have h : (Try.prog.info? 36).isSome = true := by kernel_rfl
    exact Option.isSome_iff_exists.1 h
  rw [run_equalIn_array (P := Try.prog) w (d + 2) _ _ Try.underlying37 hi]
  have kc : Try.prog.cellsOf 36 = 2 := by kernel_rfl
  rw [kc]
  refine eqItems_refl _ _ _ _ _ (fun i hi w => ?_) w
  have hi2 : i < 4 := List.mem_range.1 hi
  rcases (show i = 0 ∨ i = 1 ∨ i = 2 ∨ i = 3 by omega) with rfl | rfl | rfl | rfl
  · exact ⟨pr r.a0 r.a1, by kernel_rfl, eq_pr d _ _ _⟩
  · exact ⟨pr r.b0 r.b1, by kernel_rfl, eq_pr d _ _ _⟩
  · exact ⟨pr r.c0 r.c1, by kernel_rfl, eq_pr d _ _ _⟩
  · exact ⟨pr r.d0 r.d1, by kernel_rfl, eq_pr d _ _ _⟩
theorem rg_eq (r : Rg) (w : World) : Sem.run Try.prog (Op.equalIn 10000 39 r.v r.v) w = .ok true w := by
  rw [run_equalIn_struct (P := Try.prog) w 9999 _ _ _ (by kernel_rfl) (by kernel_rfl)]
  have hU := Try.underlying39
  simp only [Program.fieldsOf, hU]
  have p0 : Sem.run Try.prog (part 36 r.arr 0) w = .ok (pr r.p0 r.p1) w := by kernel_rfl
  have p1 : Sem.run Try.prog (part 37 r.arr 2) w = .ok (.agg r.sarr) w := by kernel_rfl
  have e0 := eq_pr 9997 r.p0 r.p1 w
  have e1 := eq_sarr 9996 r w
  simp [Op.eqFields, p0, p1, e0, e1]
theorem rt_eq (r : Rg) (w : World) : Sem.run Try.prog (Op.equalIn 10000 56 r.v r.v) w = .ok true w := by
  rw [run_equalIn_struct (P := Try.prog) w 9999 _ _ _ (by kernel_rfl) (by kernel_rfl)]
  have hU := Try.underlying56
  simp only [Program.fieldsOf, hU]
  have p0 : Sem.run Try.prog (part 36 r.arr 0) w = .ok (pr r.p0 r.p1) w := by kernel_rfl
  have p1 : Sem.run Try.prog (part 37 r.arr 2) w = .ok (.agg r.sarr) w := by kernel_rfl
  have e0 := eq_pr 9997 r.p0 r.p1 w
  have e1 := eq_sarr 9996 r w
  simp [Op.eqFields, p0, p1, e0, e1]
set_option maxHeartbeats 1000000 in
theorem law_is (a b : Option Addr) (la ca cb : Nat) (rs : List Rg) (w : World) (ha : Rgs w a la rs) (hb : Rgs w b la rs) :
    Calls Try.prog 27 #[.slice a la ca, .slice b la cb] w fun e w' => e = .returned (.bool true) ∧ Below w.heap.size w w' := by
  have HA := Lib.hid ha
  have HB := Lib.hid hb
  have hsm := ha.small
  clear ha hb
  go_enter Try.func27, Try.ntmps27
  go_wp2_with fail
  go_loopw [5, 13] (fun _ i wr => ∃ (k : Nat), k ≤ la ∧ i = .int .i64 (k : Int) ∧ Below w.heap.size w wr) (fun _ i _ => la - (intOf i).toNat)
  case atStart => exact ⟨0, by omega, rfl, Below.refl _ _⟩
  case round =>
    obtain ⟨k, hk, rfl, hB⟩ := hrel
    by_cases hlt : k < la
    · obtain ⟨ba, offa, r, rfl, hbl, hr, c0, c1, c2, c3, c4, c5, c6, c7, c8, c9⟩ := (HA.out.below (Nat.le_refl _) hB).ten hlt
      obtain ⟨bb, offb, r', rfl, hbl', hr', e0, e1, e2, e3, e4, e5, e6, e7, e8, e9⟩ := (HB.out.below (Nat.le_refl _) hB).ten hlt
      obtain rfl : r = r' := by rw [hr] at hr'; exact Option.some.inj hr'
      have hd : decide ((k : Int) < (la : Int)) = true := by simp; omega
      have hki : (k : Int) < (la : Int) := by omega
      have HB' := Lib.hid hB
      have f0 := fun dd os => cell_regrown c0 dd os
      have f1 := fun dd os => cell_regrown c1 dd os
      have f2 := fun dd os => cell_regrown c2 dd os
      have f3 := fun dd os => cell_regrown c3 dd os
      have f4 := fun dd os => cell_regrown c4 dd os
      have f5 := fun dd os => cell_regrown c5 dd os
      have f6 := fun dd os => cell_regrown c6 dd os
      have f7 := fun dd os => cell_regrown c7 dd os
      have f8 := fun dd os => cell_regrown c8 dd os
      have f9 := fun dd os => cell_regrown c9 dd os
      have g0 := fun dd os => cell_regrown e0 dd os
      have g1 := fun dd os => cell_regrown e1 dd os
      have g2 := fun dd os => cell_regrown e2 dd os
      have g3 := fun dd os => cell_regrown e3 dd os
      have g4 := fun dd os => cell_regrown e4 dd os
      have g5 := fun dd os => cell_regrown e5 dd os
      have g6 := fun dd os => cell_regrown e6 dd os
      have g7 := fun dd os => cell_regrown e7 dd os
      have g8 := fun dd os => cell_regrown e8 dd os
      have g9 := fun dd os => cell_regrown e9 dd os
      have HEQ := fun w' => rg_eq r w'
      clear hr hr' hB
      go_wp2_with fail
      refine wp_region_quiet_below (by kernel_rfl) (by kernel_rfl) ?_
      repeat (first | go_big_quiet_step (fail) | quiet_step (fail))
      refine wpQuiet_nil ?_
      rintro _ ⟨q, rfl⟩
      have HB2 := Lib.hid (HB'.out.trans ((below_regrown wr q.d q.os).mono HB'.out.size))
      generalize grow (redrawn wr q.d) q.os = wa at *
      go_wp2_with fail
      exact ⟨⟨k + 1, by omega, by simp, HB2.out⟩, by simp [intOf]; omega⟩
    · obtain rfl : k = la := by omega
      have hd : decide ((k : Int) < (k : Int)) = false := by simp
      have HB' := Lib.hid hB
      clear hB
      go_wp2_with fail
      go_ret
      exact ⟨rfl, HB'.out⟩
end Go.Proofs.Ytmkplfndbjcflaa
