/- Positions over this seat's program: Play. -/
import Derived.Test.YtnbillhodbcfbaaDoorMDpg
import Derived.Test.YtnbillhodbcfbaaDoorMDpm
import Derived.Test.YtnbillhodbcfbaaDoorMDpi
import Derived.Deep.MidRow
namespace Go.Proofs.YtnbillhodbcfbaaDoor
open Go.RowKit Go.Sort Go.Shelf Go.Maps Go.WideMaps

/-- a region in which operation a appends and operation s stores what comes out -/
structure FP (vals : List Value) (a s : Nat) (A : World → Prop) (D : Value → World → Prop) (E : World → Prop) (f : Done) (W : World) : Prop where
  val : ∀ j v x, j ≠ a → f j = some v → vals[j]? = some x → v = x
  s0 : f a = none → f s = none ∧ A W
  s1 : ∀ y, f a = some y → f s = none → D y W
  s2 : ∀ u, f s = some u → E W
section
variable {vals : List Value} {a s : Nat} {A : World → Prop} {D : Value → World → Prop} {E : World → Prop} {f : Done} {W W' : World}
theorem FP.start (h : A W) : FP vals a s A D E (fun _ => none) W := ⟨fun _ _ _ _ h => (by cases h), fun _ => ⟨rfl, h⟩, (fun _ h => by cases h), fun _ h => by cases h⟩
theorem FP.look (h : FP vals a s A D E f W) (hs : f s = none) : A W ∨ ∃ y, D y W := by
  rcases ha : f a with _ | y
  · exact .inl (h.s0 ha).2
  · exact .inr ⟨y, h.s1 y ha hs⟩
theorem FP.pure (h : FP vals a s A D E f W) (i : Nat) (v : Value) (hi : i ≠ a ∧ i ≠ s) (hv : vals[i]? = some v) : FP vals a s A D E (f.set i v) W := by
  refine ⟨fun j u x h8 hj hx => ?_, ?_, ?_, ?_⟩
  · by_cases e : j = i
    · subst e
      rw [Done.same] at hj
      rw [hv] at hx
      exact (Option.some.inj hj).symm.trans (Option.some.inj hx)
    · rw [Done.other f v e] at hj
      exact h.val j u x h8 hj hx
  all_goals simp only [Done.other f v (Ne.symm hi.1), Done.other f v (Ne.symm hi.2)]
  · exact h.s0
  · exact h.s1
  · exact h.s2
theorem FP.app (h : FP vals a s A D E f W) (v : Value) (has : s ≠ a) (hf : f a = none) (hD : D v W') : FP vals a s A D E (f.set a v) W' := by
  obtain ⟨hs, -⟩ := h.s0 hf
  refine ⟨fun j u x h8 hj hx => ?_, ?_, ?_, ?_⟩
  · rw [Done.other f v h8] at hj
    exact h.val j u x h8 hj hx
  all_goals simp only [Done.same, Done.other f v has, hs]
  · intro h; cases h
  · rintro y hy -
    exact Option.some.inj hy ▸ hD
  · intro _ h; cases h
theorem FP.store (h : FP vals a s A D E f W) (v : Value) (hv : vals[s]? = some v) (has : a ≠ s) {y : Value} (ha : f a = some y) (hE : E W') : FP vals a s A D E (f.set s v) W' := by
  refine ⟨fun j u x h8 hj hx => ?_, ?_, ?_, ?_⟩
  · by_cases e : j = s
    · subst e
      rw [Done.same] at hj
      rw [hv] at hx
      exact (Option.some.inj hj).symm.trans (Option.some.inj hx)
    · rw [Done.other f v e] at hj
      exact h.val j u x h8 hj hx
  all_goals simp only [Done.same, Done.other f v has, ha]
  · intro h; cases h
  · intro _ _ h; cases h
  · exact fun _ _ => hE
end
/-- append of bytes that are there, as an operation -/
theorem ok_appU {o : Oper} {ρ : Operand → Value} {w : World} {R : Value → World → Prop} (s x : Operand)
    (ho : o.op = .call { callee := .builtin .append, args := #[s, x], argTypes := #[25, 25] })
    (base : Nat) (u : Value) (l ys : List Nat) (hs : ρ s = u) (hown : OwnU w base u l) (ad : Addr) (k c : Nat) (hx : ρ x = .slice (some ad) k c) (hk : ys.length = k) (hy : ∀ j u, (ys.flatMap encU)[j]? = some u → w.cell? (ad.add j) = some u)
    (hl : l.length + k ≤ 1000000) (hbase : base ≤ w.heap.size)
    (h : ∀ v' w', OwnU w' base v' (l ++ ys) → w.grownBy w' u.ownBlock → R v' w') : OpOk Tryd.prog o ρ w R := by
  obtain ⟨i0, hi, hz0, hz1, hz2⟩ := info_parts info_u8'
  obtain ⟨v', w', hr, h1, h3, h5, h4⟩ := run_append_own_at (P := Tryd.prog) (w := w) base 25 o.type 5 i0 (.int .u8 0) 1 1 Tryd.underlying25 hi hz0 hz1 hz2 rfl (by decide) u l.length (l.flatMap encU) hown.2 ad k c (ys.flatMap encU) (by rw [flatU_len]; omega) hy (flatU_one ys) (by unfold maxLen; omega) (by omega) hbase
  refine ok_value (v := v') (w' := w') ?_ (h v' w' ⟨encU_len, ?_⟩ h3)
  · unfold execOp
    simp only [ho, resolve, invoke, builtin, Sem.run_bind, Sem.run_pure, Result.andThen_ok, List.map_toArray, List.map_cons, List.map_nil, hs, hx, hr]
  · rw [List.length_append, List.flatMap_append, hk]
    exact h1
theorem results_three {P : Program} {fn : Func} {p q r : Tmp} {ty : TypeId} (h : fn.results = #[.cell p ty, .tmp q, .tmp r]) (tmps : Array Value) (w : World) (g : Nat) (t : TypeId) (cs : Array Value) (fr : Nat × Nat) (d : TypeDesc)
    (hp : tmps.getD p undef = .pointer (some ⟨g, 0, none⟩)) (hg : w.heap[g]? = some (.cells cs t fr))
    (hu : P.underlying ty = some d) (hd : (match d with | .struct _ | .array _ _ => true | _ => false) = true) (hi : (P.info? ty).map (·.size) = some cs.size) :
    (results fn tmps).run P w = .ok (.tuple #[.agg cs, tmps.getD q undef, tmps.getD r undef]) w := by
  have hp' : tmps[p]?.getD undef = .pointer (some ⟨g, 0, none⟩) := by simpa using hp
  simp [results, h, hp', asAddr, run_loadVar_row w g t ty cs fr d hg hu hd hi]
abbrev zeroP : Array Value := #[.int .u64 0, .int .u64 0, .int .u64 0, .int .u64 0, .int .u8 0, .int .u8 0, .slice none 0 0]
theorem build_pos0 (W : World) : (Instr.build 27 #[]).run Tryd.prog W = .ok (.agg zeroP) W := by kernel_rfl
set_option maxHeartbeats 1000000 in
set_option maxRecDepth 10000 in
theorem dm_Play_no (h : Nat → Nat) (tr ld : Nat) (ps : List Nat) (a : Option Addr) (cap c : Nat) (hw : ∀ s, W64 (h s)) (htr : tr < 256) (hld : ld < 256) (w : World) (hz : Byt w a ps.length ps) (hr : rightB h tr ld ps = false) :
    Calls Tryd.prog 13 #[.agg (posA h tr ld (.slice a ps.length cap)), .int .u8 (c : Int)] w fun e w' => e = .returned (.tuple #[.agg zeroP, .int .i64 0, .int .i64 2]) ∧ Below w.heap.size w w' := by
  have hb1 := ((Below.refl w.heap.size w).alloc (Nat.le_refl _) (.cells (posA h tr ld (.slice a ps.length cap)) 27)).alloc (by simp) (.cells zeroP 27)
  have HRI := Lib.hid (dm_Right h tr ld ps a cap hw htr hld _ (hz.below (Nat.le_refl _) hb1))
  rw [hr] at HRI
  have HB := Lib.hid hb1
  have HR := Lib.hid ((Row.new w 27 (posA h tr ld (.slice a ps.length cap))).alloc (.cells zeroP 27))
  have HZ0 := Lib.hid (Row.new1 w (.cells (posA h tr ld (.slice a ps.length cap)) 27) 27 zeroP)
  obtain ⟨PA, hPA⟩ : ∃ A, posA h tr ld (.slice a ps.length cap) = A := ⟨_, rfl⟩
  have HZ : Hid (PA.size = 7) := Lib.hid (by rw [← hPA]; rfl)
  rw [hPA] at HRI HB HR HZ0 ⊢
  clear hPA hb1 hz hr hw
  go_enter Tryd.func13, Tryd.ntmps13
  go_wp2_with (refine wpList_load_row rfl 27 (.tmp 2) rfl w.heap.size rfl 27 PA (0, 0) _ HR.out Tryd.underlying27 rfl (by rw [HZ.out]; exact size_pos) ?_)
  refine HRI.out.mono ?_
  rintro e w2 ⟨rfl, hb2⟩
  have HB2 := Lib.hid (HB.out.trans (hb2.mono HB.out.size))
  have HZ2 := Lib.hid (HZ0.out.later hb2)
  have hbd := fun W => build_pos0 W
  clear hb2
  go_wp2_with (refine wpList_store_row rfl 27 (.tmp 4) (.tmp 13) rfl (w.heap.size + 1) zeroP rfl rfl 27 _ HZ2.out size_pos rfl (by simp [Value.oneCell']) ?_)
  refine bodyPost_ret (v := .tuple #[.agg zeroP, .int .i64 0, .int .i64 2]) (results_three Tryd.results13 _ _ (w.heap.size + 1) _ zeroP (0, 0) _ rfl (setRow_heap _ _ _ _ _ _ HZ2.out) Tryd.underlying27 rfl size_pos) rfl ⟨rfl, below_setRow HB2.out (Nat.le_succ _) _⟩
set_option maxHeartbeats 1000000 in
set_option maxRecDepth 10000 in
theorem dm_Play_none (h : Nat → Nat) (tr ld : Nat) (ps : List Nat) (a : Option Addr) (cap c : Nat) (hw : ∀ s, W64 (h s)) (htr : tr < 256) (hld : ld < 256) (_ : c < 256) (w : World) (hz : Byt w a ps.length ps) (hr : rightB h tr ld ps = true) (hl : Tb.legal ⟨h, ld, ps⟩ c = false) :
    Calls Tryd.prog 13 #[.agg (posA h tr ld (.slice a ps.length cap)), .int .u8 (c : Int)] w fun e w' => e = .returned (.tuple #[.agg zeroP, .int .i64 0, .int .i64 6]) ∧ Below w.heap.size w w' := by
  have hb1 := ((Below.refl w.heap.size w).alloc (Nat.le_refl _) (.cells (posA h tr ld (.slice a ps.length cap)) 27)).alloc (by simp) (.cells zeroP 27)
  have HRI := Lib.hid (dm_Right h tr ld ps a cap hw htr hld _ (hz.below (Nat.le_refl _) hb1))
  have hRP := right_of hw hr
  have HST := Lib.hid (fun W hzW => dm_start h tr ld ps a cap (Nat.le_of_lt_succ hRP.ok.pk.2) W hzW)
  have HCA := Lib.hid (fun W => dm_can ⟨h, ld, ps⟩ hRP.ok W)
  have hcw := canM_w64 hRP.ok
  have hbt := canM_bit ⟨h, ld, ps⟩ c
  rw [hl] at hbt
  rw [hr] at HRI
  have HB := Lib.hid hb1
  have HY := Lib.hid hz
  have HR := Lib.hid ((Row.new w 27 (posA h tr ld (.slice a ps.length cap))).alloc (.cells zeroP 27))
  have HZ0 := Lib.hid (Row.new1 w (.cells (posA h tr ld (.slice a ps.length cap)) 27) 27 zeroP)
  obtain ⟨PA, hPA⟩ : ∃ A, posA h tr ld (.slice a ps.length cap) = A := ⟨_, rfl⟩
  have HZ : Hid (PA.size = 7) := Lib.hid (by rw [← hPA]; rfl)
  rw [hPA] at HRI HB HR HZ0 HST ⊢
  obtain ⟨TA, hTA⟩ : ∃ A, tbA ⟨h, ld, ps⟩ = A := ⟨_, rfl⟩
  have HTZ : Hid (TA.size = 10 ∧ TA.all (·.oneCell') = true) := Lib.hid (by rw [← hTA]; exact ⟨rfl, tbA_one _⟩)
  rw [hTA] at HST HCA
  obtain ⟨cm, hcm⟩ : ∃ m, canM ⟨h, ld, ps⟩ = m := ⟨_, rfl⟩
  rw [hcm] at HCA hcw hbt
  have hsr := run_shr64 cm c .u8 hcw
  have hba := run_bit64 cm c hcw
  clear hPA hb1 hz hr hw hl hRP hTA hcm
  go_enter Tryd.func13, Tryd.ntmps13
  go_wp2_with (refine wpList_load_row rfl 27 (.tmp 2) rfl w.heap.size rfl 27 PA (0, 0) _ HR.out Tryd.underlying27 rfl (by rw [HZ.out]; exact size_pos) ?_)
  refine HRI.out.mono ?_
  rintro e w2 ⟨rfl, hb2⟩
  have HB2 := Lib.hid (HB.out.trans (hb2.mono HB.out.size))
  have HZ2 := Lib.hid (HZ0.out.later hb2)
  have HR2 := Lib.hid (HR.out.later hb2)
  clear hb2
  go_wp2_with (refine wpList_load_row rfl 27 (.tmp 2) rfl w.heap.size rfl 27 PA (0, 0) _ HR2.out Tryd.underlying27 rfl (by rw [HZ.out]; exact size_pos) ?_)
  refine (HST.out w2 (HY.out.below (Nat.le_refl _) HB2.out)).mono ?_
  rintro e w3 ⟨rfl, hb3⟩
  have HN3 := Lib.hid (Row.new w3 76 zeroT)
  have ha := below_setRow ((Below.refl w3.heap.size w3).alloc (Nat.le_refl _) (.cells zeroT 76)) (Nat.le_refl _) TA
  have hr7 : Row ((w3.alloc (.cells zeroT 76)).setRow w3.heap.size TA) w3.heap.size 76 TA := setRow_heap _ _ _ _ _ _ HN3.out
  have HR7 := Lib.hid hr7
  clear hr7
  have HB3 := Lib.hid ((HB2.out.trans (hb3.mono HB2.out.size)).trans (ha.mono (Nat.le_trans HB2.out.size hb3.size)))
  have HZ3 := Lib.hid ((HZ2.out.later hb3).later ha)
  have hbd := fun W => build_pos0 W
  clear hb3 ha
  go_upto_region 4 with (refine wpList_store_row rfl 76 (.tmp 7) (.tmp 15) rfl w3.heap.size TA rfl rfl 76 _ HN3.out (by rw [HTZ.out.1]; exact size_tb) (by rw [HTZ.out.1]; rfl) HTZ.out.2 ?_)
  generalize (w3.alloc (.cells zeroT 76)).setRow w3.heap.size TA = w4 at *
  go_wp2_with (refine wpList_load_row rfl 76 (.tmp 7) rfl w3.heap.size rfl 76 TA (0, 0) _ HR7.out Tryd.underlying76 rfl (by rw [HTZ.out.1]; exact size_tb) ?_)
  refine (HCA.out _).mono ?_
  rintro e w5 ⟨rfl, hb5⟩
  have HB5 := Lib.hid (HB3.out.trans (hb5.mono HB3.out.size))
  have HZ5 := Lib.hid (HZ3.out.later hb5)
  clear hb5
  go_wp2_with (refine wpList_store_row rfl 27 (.tmp 4) (.tmp 22) rfl (w.heap.size + 1) zeroP rfl rfl 27 _ HZ5.out size_pos rfl (by simp [Value.oneCell']) ?_)
  refine bodyPost_ret (v := .tuple #[.agg zeroP, .int .i64 0, .int .i64 6]) (results_three Tryd.results13 _ _ (w.heap.size + 1) _ zeroP (0, 0) _ rfl (setRow_heap _ _ _ _ _ _ HZ5.out) Tryd.underlying27 rfl size_pos) rfl ⟨rfl, below_setRow HB5.out (Nat.le_succ _) _⟩
theorem trick_run (B k : Nat) (hk : k ≤ 4) (wx : World) : (Instr.sliceAt 74 (.pointer (some ⟨B, 6, none⟩)) none (some (.int .u8 (k : Int))) none).run Tryd.prog wx = .ok (.slice (some ⟨B, 6, none⟩) k 4) wx := by
  have hl : Tryd.prog.arrayLen 74 = 4 := by kernel_rfl
  have hsz : (sizeOf (Tryd.prog.elem 74)).run Tryd.prog wx = .ok 1 wx := by kernel_rfl
  rw [run_sliceAt_array_h wx 74 ⟨B, 6, none⟩ (by kernel_rfl) .u8 (k : Int) (by omega) (by rw [hl]; omega), hsz, hl]
  simp [Result.andThen, slicedAt, Addr.add]
/-- what Play gives back -/
def PlayOk (u : Tb) (tr won : Nat) (w : World) (e : Ending) (w' : World) : Prop := ∃ v, e = .returned (.tuple #[.agg (posA u.h tr u.ld v), .int .i64 (won : Int), .int .i64 0]) ∧ OwnU w' w.heap.size v u.cs ∧ Below w.heap.size w w'
set_option maxHeartbeats 2000000 in
set_option maxRecDepth 10000 in
theorem dm_Play_ok (h : Nat → Nat) (tr ld : Nat) (ps : List Nat) (a : Option Addr) (cap c : Nat) (hw : ∀ s, W64 (h s)) (htr : tr < 256) (hld : ld < 256) (w : World) (hz : Byt w a ps.length ps) (hr : rightB h tr ld ps = true) (hl : Tb.legal ⟨h, ld, ps⟩ c = true) :
    Calls Tryd.prog 13 #[.agg (posA h tr ld (.slice a ps.length cap)), .int .u8 (c : Int)] w (PlayOk ((Tb.mk h ld ps).put tr c).1 tr ((Tb.mk h ld ps).put tr c).2 w) := by
  have hb1 := ((Below.refl w.heap.size w).alloc (Nat.le_refl _) (.cells (posA h tr ld (.slice a ps.length cap)) 27)).alloc (by simp) (.cells zeroP 27)
  have HRI := Lib.hid (dm_Right h tr ld ps a cap hw htr hld _ (hz.below (Nat.le_refl _) hb1))
  have hRP := right_of hw hr
  have HST := Lib.hid (fun W hzW => dm_start h tr ld ps a cap (Nat.le_of_lt_succ hRP.ok.pk.2) W hzW)
  have HCA := Lib.hid (fun W => dm_can ⟨h, ld, ps⟩ hRP.ok W)
  have hc52 : c < 52 := hRP.ok.pk.1 _ (Tb.turn_lt _) _ (legal_iff.1 hl).1
  have HPU := Lib.hid (fun W => dm_put ⟨h, ld, ps⟩ hRP.ok tr c hc52 htr W)
  have hok := ok_put hRP.ok (tr := tr) hc52
  have hcw := canM_w64 hRP.ok
  have hbt := canM_bit ⟨h, ld, ps⟩ c
  rw [hl] at hbt
  rw [hr] at HRI
  have HB := Lib.hid hb1
  have HY := Lib.hid hz
  have HR := Lib.hid ((Row.new w 27 (posA h tr ld (.slice a ps.length cap))).alloc (.cells zeroP 27))
  have HZ0 := Lib.hid (Row.new1 w (.cells (posA h tr ld (.slice a ps.length cap)) 27) 27 zeroP)
  have HC4 : Hid ((posA h tr ld (.slice a ps.length cap))[4]? = some (.int .u8 (tr : Int))) := Lib.hid rfl
  obtain ⟨PA, hPA⟩ : ∃ A, posA h tr ld (.slice a ps.length cap) = A := ⟨_, rfl⟩
  have HZ : Hid (PA.size = 7) := Lib.hid (by rw [← hPA]; rfl)
  rw [hPA] at HRI HB HR HZ0 HST HC4 ⊢
  obtain ⟨u, hu⟩ : ∃ u, ((Tb.mk h ld ps).put tr c).1 = u := ⟨_, rfl⟩
  obtain ⟨won, hwon⟩ : ∃ x, ((Tb.mk h ld ps).put tr c).2 = x := ⟨_, rfl⟩
  rw [hu, hwon] at HPU ⊢
  rw [hu] at hok
  have HOK := Lib.hid hok
  obtain ⟨TA, hTA⟩ : ∃ A, tbA ⟨h, ld, ps⟩ = A := ⟨_, rfl⟩
  have HTZ : Hid (TA.size = 10 ∧ TA.all (·.oneCell') = true) := Lib.hid (by rw [← hTA]; exact ⟨rfl, tbA_one _⟩)
  rw [hTA] at HST HCA HPU
  obtain ⟨UA, hUA⟩ : ∃ A, tbA u = A := ⟨_, rfl⟩
  have HUA := Lib.hid hUA
  have HUZ : Hid (UA.size = 10 ∧ UA.all (·.oneCell') = true) := Lib.hid (by rw [← hUA]; exact ⟨rfl, tbA_one _⟩)
  rw [hUA] at HPU
  obtain ⟨cm, hcm⟩ : ∃ m, canM ⟨h, ld, ps⟩ = m := ⟨_, rfl⟩
  rw [hcm] at HCA hcw hbt
  have hsr := run_shr64 cm c .u8 hcw
  have hba := run_bit64 cm c hcw
  clear hPA hb1 hz hr hw hl hRP hTA hcm hc52 hu hwon hok hUA
  go_enter Tryd.func13, Tryd.ntmps13
  go_wp2_with (refine wpList_load_row rfl 27 (.tmp 2) rfl w.heap.size rfl 27 PA (0, 0) _ HR.out Tryd.underlying27 rfl (by rw [HZ.out]; exact size_pos) ?_)
  refine HRI.out.mono ?_
  rintro e w2 ⟨rfl, hb2⟩
  have HB2 := Lib.hid (HB.out.trans (hb2.mono HB.out.size))
  have HZ2 := Lib.hid (HZ0.out.later hb2)
  have HR2 := Lib.hid (HR.out.later hb2)
  clear hb2
  go_wp2_with (refine wpList_load_row rfl 27 (.tmp 2) rfl w.heap.size rfl 27 PA (0, 0) _ HR2.out Tryd.underlying27 rfl (by rw [HZ.out]; exact size_pos) ?_)
  refine (HST.out w2 (HY.out.below (Nat.le_refl _) HB2.out)).mono ?_
  rintro e w3 ⟨rfl, hb3⟩
  have HN3 := Lib.hid (Row.new w3 76 zeroT)
  have ha := below_setRow ((Below.refl w3.heap.size w3).alloc (Nat.le_refl _) (.cells zeroT 76)) (Nat.le_refl _) TA
  have hr7 : Row ((w3.alloc (.cells zeroT 76)).setRow w3.heap.size TA) w3.heap.size 76 TA := setRow_heap _ _ _ _ _ _ HN3.out
  have HR7 := Lib.hid hr7
  clear hr7
  have HL3 := Lib.hid (show w.heap.size + 1 < w3.heap.size from (HZ2.out.later hb3).lt)
  have HB3 := Lib.hid ((HB2.out.trans (hb3.mono HB2.out.size)).trans (ha.mono (Nat.le_trans HB2.out.size hb3.size)))
  have HZ3 := Lib.hid ((HZ2.out.later hb3).later ha)
  have HR3 := Lib.hid ((HR2.out.later hb3).later ha)
  clear hb3 ha HB HR HZ0 HB2 HZ2 HR2
  go_upto_region 4 with (refine wpList_store_row rfl 76 (.tmp 7) (.tmp 15) rfl w3.heap.size TA rfl rfl 76 _ HN3.out (by rw [HTZ.out.1]; exact size_tb) (by rw [HTZ.out.1]; rfl) HTZ.out.2 ?_)
  generalize (w3.alloc (.cells zeroT 76)).setRow w3.heap.size TA = w4 at *
  obtain ⟨b7, hb7⟩ : ∃ b, w3.heap.size = b := ⟨_, rfl⟩
  rw [hb7] at HR7 HL3 ⊢
  clear hb7
  go_wp2_with (refine wpList_load_row rfl 76 (.tmp 7) rfl b7 rfl 76 TA (0, 0) _ HR7.out Tryd.underlying76 rfl (by rw [HTZ.out.1]; exact size_tb) ?_)
  refine (HCA.out _).mono ?_
  rintro e w5 ⟨rfl, hb5⟩
  have HB5 := Lib.hid (HB3.out.trans (hb5.mono HB3.out.size))
  have HZ5 := Lib.hid (HZ3.out.later hb5)
  have HR5 := Lib.hid (HR3.out.later hb5)
  have HT5 := Lib.hid (HR7.out.later hb5)
  have c4 := (HR5.out.cell 4).trans HC4.out
  clear hb5 HB3 HZ3 HR3 HR7
  go_wp2_with (refine wpList_load_row rfl 76 (.tmp 7) rfl b7 rfl 76 TA (0, 0) _ HT5.out Tryd.underlying76 rfl (by rw [HTZ.out.1]; exact size_tb) ?_)
  refine (HPU.out _).mono ?_
  rintro e w6 ⟨rfl, hb6⟩
  have HT6 := Lib.hid (HT5.out.later hb6)
  have hl3 := HL3.out
  have hs7 : Row (w6.setRow b7 UA) b7 76 UA := setRow_heap _ _ _ _ _ _ HT6.out
  have hso : ∀ k, k ≠ b7 → (w6.setRow b7 UA).heap[k]? = w6.heap[k]? := fun k hk => setRow_other _ _ _ _ hk
  have HB7 := Lib.hid (below_setRow (HB5.out.trans (hb6.mono HB5.out.size)) (show w.heap.size ≤ b7 by omega) UA)
  have HZ7 := Lib.hid ((HZ5.out.later hb6).same (hso _ (by omega)))
  have HR7 := Lib.hid ((HR5.out.later hb6).same (hso _ (by omega)))
  have HT7 := Lib.hid hs7
  clear hb6 hs7 hso hl3 HB5 HZ5 HR5 c4
  go_upto_region 7 with (refine wpList_store_row rfl 76 (.tmp 7) (.tmp 29) rfl b7 UA rfl rfl 76 _ HT6.out (by rw [HUZ.out.1]; exact size_tb) (by rw [HTZ.out.1, HUZ.out.1]) HUZ.out.2 ?_)
  generalize w6.setRow b7 UA = w7 at *
  have c4 := (HR7.out.cell 4).trans HC4.out
  have d4 : w7.cell? ⟨b7, 4, none⟩ = some (.int .u8 (u.ld : Int)) := (HT7.out.cell 4).trans (by rw [← HUA.out]; rfl)
  have HRA : Hid (w7.rangeAt b7 0 [.int .u64 (u.h 0 : Int), .int .u64 (u.h 1 : Int), .int .u64 (u.h 2 : Int), .int .u64 (u.h 3 : Int)]) := Lib.hid (by
    intro j v hj
    have hj4 : j < 4 := by simpa using (List.getElem?_eq_some_iff.1 hj).1
    rw [Nat.zero_add, HT7.out.cell j, ← HUA.out]
    rcases (show j = 0 ∨ j = 1 ∨ j = 2 ∨ j = 3 by omega) with rfl | rfl | rfl | rfl <;> exact hj)
  go_upto_region 8 with (refine wpList_load_mid rfl 24 (.tmp 31) rfl b7 0 rfl _ _ HRA.out Tryd.underlying24 rfl size_de ?_)
  have HPN : Hid (posA u.h tr u.ld (.slice none 0 0) = #[.int .u64 (u.h 0 : Int), .int .u64 (u.h 1 : Int), .int .u64 (u.h 2 : Int), .int .u64 (u.h 3 : Int), .int .u8 (tr : Int), .int .u8 (u.ld : Int), .slice none 0 0]) := Lib.hid rfl
  rw [← HPN.out]
  have HR9 := Lib.hid (Row.new w7 27 (posA u.h tr u.ld (.slice none 0 0)))
  have ha := (Below.refl w7.heap.size w7).alloc (Nat.le_refl _) (.cells (posA u.h tr u.ld (.slice none 0 0)) 27)
  have HB9 := Lib.hid (HB7.out.trans (ha.mono HB7.out.size))
  have HT9 := Lib.hid (HT7.out.later ha)
  have HZ9 := Lib.hid (HZ7.out.later ha)
  have HL9 := Lib.hid (show b7 < w7.heap.size from HT7.out.lt)
  clear ha c4 d4 HRA HB7 HT7 HZ7 HR7
  obtain ⟨b9, hb9⟩ : ∃ b, w7.heap.size = b := ⟨_, rfl⟩
  rw [hb9] at HR9 HL9 ⊢
  clear hb9
  generalize w7.alloc (.cells (posA u.h tr u.ld (.slice none 0 0)) 27) = w9 at *
  have hun := HOK.out.pk.2
  have HSL := Lib.hid (fun W => trick_run b7 u.cs.length (Nat.le_of_lt hun) W)
  have HCS : Hid (∀ i, i < u.cs.length → UA[6 + i]? = some (.int .u8 ((u.cs.getD i 0 : Nat) : Int))) := Lib.hid fun i hi => by rw [← HUA.out]; exact tbA_c u i (by omega)
  have HC5 : Hid (UA[5]? = some (.int .u8 (u.cs.length : Int))) := Lib.hid (by rw [← HUA.out]; rfl)
  obtain ⟨n, hn⟩ : ∃ n, u.cs.length = n := ⟨_, rfl⟩
  have HN := Lib.hid hn
  rw [hn] at hun HSL HCS HC5
  clear hn
  have HNI := Lib.hid hun
  refine wp_region_reliesS (FP [.pointer (some ⟨b9, 6, none⟩), .slice none 0 0, .pointer (some ⟨b7, 6, none⟩), .pointer (some ⟨b7, 5, none⟩), .int .u8 (n : Int), .slice (some ⟨b7, 6, none⟩) n 4, undef, .pointer (some ⟨b9, 6, none⟩), undef] 6 8
    (fun W => Below w9.heap.size w9 W)
    (fun y W => Below w9.heap.size w9 W ∧ OwnU W w9.heap.size y u.cs)
    (fun W => ∃ y, OwnU W w9.heap.size y u.cs ∧ Below w9.heap.size w9 (w9.drew) ∧ Row W b9 27 (posA u.h tr u.ld y) ∧ Below w.heap.size w W ∧ Row W (w.heap.size + 1) 27 zeroP)) (by kernel_rfl) (by kernel_rfl) (by kernel_rfl) (by kernel_rfl) (FP.start (Below.refl _ _).drew) ?obls ?fini
  case obls =>
    refine ⟨?_, ?_, ?_, ?_, ?_, ?_, ?_, ?_, ?_, trivial⟩
    · rintro ρ f W hF hfi hw hcl hf
      have f0 : ρ (.tmp 9) = .pointer (some ⟨b9, 0, none⟩) := hf.1 9 (by simp [Op.operands])
      exact ok_value (v := .pointer (some ⟨b9, 6, none⟩)) (w' := W) (by simp [execOp, f0, go_sem]) (hF.pure 0 _ (by decide) rfl)
    · rintro ρ f W hF hfi hw hcl hf
      have h8 : f 8 = none := by
        rcases h : f 8 with _ | v
        · rfl
        · have := hcl 8 (by rw [h]; rfl) 6 (by decide)
          have := hcl 6 this 1 (by decide)
          rw [hfi] at this; cases this
      have hst : Below w9.heap.size w9 W := (hF.look h8).elim (fun h => h) fun ⟨_, h⟩ => h.1
      have f0 : ρ (.tmp 38) = .pointer (some ⟨b9, 6, none⟩) := hF.val 0 _ _ (by decide) (hf.1 38 (by simp [Op.operands])) rfl
      have ck : W.cell? ⟨b9, 6, none⟩ = some (.slice none 0 0) := (HR9.out.later hst).cell 6
      exact ok_value (v := .slice none 0 0) (w' := W) (by simp [execOp, f0, go_sem, ck]) (hF.pure 1 _ (by decide) rfl)
    · rintro ρ f W hF hfi hw hcl hf
      have f0 : ρ (.tmp 7) = .pointer (some ⟨b7, 0, none⟩) := hf.1 7 (by simp [Op.operands])
      exact ok_value (v := .pointer (some ⟨b7, 6, none⟩)) (w' := W) (by simp [execOp, f0, go_sem]) (hF.pure 2 _ (by decide) rfl)
    · rintro ρ f W hF hfi hw hcl hf
      have f0 : ρ (.tmp 7) = .pointer (some ⟨b7, 0, none⟩) := hf.1 7 (by simp [Op.operands])
      exact ok_value (v := .pointer (some ⟨b7, 5, none⟩)) (w' := W) (by simp [execOp, f0, go_sem]) (hF.pure 3 _ (by decide) rfl)
    · rintro ρ f W hF hfi hw hcl hf
      have h8 : f 8 = none := by
        rcases h : f 8 with _ | v
        · rfl
        · have := hcl 8 (by rw [h]; rfl) 6 (by decide)
          have := hcl 6 this 5 (by decide)
          have := hcl 5 this 4 (by decide)
          rw [hfi] at this; cases this
      have hst : Below w9.heap.size w9 W := (hF.look h8).elim (fun h => h) fun ⟨_, h⟩ => h.1
      have f0 : ρ (.tmp 41) = .pointer (some ⟨b7, 5, none⟩) := hF.val 3 _ _ (by decide) (hf.1 41 (by simp [Op.operands])) rfl
      have ck : W.cell? ⟨b7, 5, none⟩ = some (.int .u8 (n : Int)) := ((HT9.out.later hst).cell 5).trans HC5.out
      exact ok_value (v := .int .u8 (n : Int)) (w' := W) (by simp [execOp, f0, go_sem, ck]) (hF.pure 4 _ (by decide) rfl)
    · rintro ρ f W hF hfi hw hcl hf
      have f0 : ρ (.tmp 40) = .pointer (some ⟨b7, 6, none⟩) := hF.val 2 _ _ (by decide) (hf.1 40 (by simp [Op.operands])) rfl
      have f1 : ρ (.tmp 42) = .int .u8 (n : Int) := hF.val 4 _ _ (by decide) (hf.1 42 (by simp [Op.operands])) rfl
      have hsl := HSL.out W
      exact ok_value (v := .slice (some ⟨b7, 6, none⟩) n 4) (w' := W) (by simp [execOp, f0, f1, go_sem, hsl]) (hF.pure 5 _ (by decide) rfl)
    · rintro ρ f W hF hfi hw hcl hf
      obtain ⟨h8, hst⟩ := hF.s0 hfi
      have f0 : ρ (.tmp 39) = .slice none 0 0 := hF.val 1 _ _ (by decide) (hf.1 39 (by simp [Op.operands, Call.operands])) rfl
      have f1 : ρ (.tmp 43) = .slice (some ⟨b7, 6, none⟩) n 4 := hF.val 5 _ _ (by decide) (hf.1 43 (by simp [Op.operands, Call.operands])) rfl
      have hni := HNI.out
      refine ok_appU (.tmp 39) (.tmp 43) rfl w9.heap.size (.slice none 0 0) [] u.cs f0 (Owns.nil encU_len _ _) ⟨b7, 6, none⟩ n 4 f1 HN.out (fun j x hx => ?_) (by simp; omega) hst.size ?_
      · have hj : j < u.cs.length := by
          have := (List.getElem?_eq_some_iff.1 hx).1
          rwa [flatU_len] at this
        rw [flatU u.cs j hj] at hx
        have ck := ((HT9.out.later hst).cell (6 + j)).trans (HCS.out j (by have := HN.out; omega))
        rw [← hx]
        have ea : (⟨b7, 6, none⟩ : Addr).add j = ⟨b7, 6 + j, none⟩ := by unfold Addr.add; split <;> simp_all
        rw [ea]
        exact ck
      · intro v' w' hown hgr
        exact hF.app v' (by decide) hfi ⟨⟨hgr.os.trans hst.os, hgr.tape.trans hst.tape, hgr.output.trans hst.output, Nat.le_trans hst.size hgr.size, fun k hk => (hgr.block k (Nat.lt_of_lt_of_le hk hst.size) (by simp [Value.ownBlock])).trans (hst.block k hk)⟩, hown⟩
    · rintro ρ f W hF hfi hw hcl hf
      have f0 : ρ (.tmp 9) = .pointer (some ⟨b9, 0, none⟩) := hf.1 9 (by simp [Op.operands])
      exact ok_value (v := .pointer (some ⟨b9, 6, none⟩)) (w' := W) (by simp [execOp, f0, go_sem]) (hF.pure 7 _ (by decide) rfl)
    · rintro ρ f W hF hfi hw hcl hf
      have h6 : f 6 = some (ρ (.tmp 44)) := hf.1 44 (by simp [Op.operands])
      obtain ⟨hst, hown⟩ := hF.s1 _ h6 hfi
      have f0 : ρ (.tmp 45) = .pointer (some ⟨b9, 6, none⟩) := hF.val 7 _ _ (by decide) (hf.1 45 (by simp [Op.operands])) rfl
      obtain ⟨ya, yc, hy, -⟩ := hown.slice
      rw [hy] at h6 hown
      have hr9 := HR9.out.later hst
      have ck : W.cell? ⟨b9, 6, none⟩ = some (.slice none 0 0) := hr9.cell 6
      have fk := hr9.frozen 6
      have hl9 := HL9.out
      have hl3 := HL3.out
      have hb9 : b9 < w9.heap.size := HR9.out.lt
      refine ok_skip (w' := W.setCell ⟨b9, 6, none⟩ (.slice ya u.cs.length yc)) (by simp [execOp, f0, hy, go_sem, ck, fk]) (hF.store _ rfl (by decide) h6 ⟨_, hown.same fun g hg hg2 => Below.heap_setCell _ _ _ _ (by show g ≠ b9; omega), (Below.refl _ _).drew, hr9.set 6 _, (HB9.out.trans (hst.mono HB9.out.size)).setCell (p := ⟨b9, 6, none⟩) (by show w.heap.size ≤ b9; omega) _, ?_⟩)
      exact (HZ9.out.later hst).other (show w.heap.size + 1 ≠ b9 by omega)
  case fini =>
    rintro vs w8 hlen hF
    have hl0 : vs.length = 9 := hlen
    match vs, hl0 with
    | [v0, v1, v2, v3, v4, v5, v6, v7, v8], _ =>
      obtain ⟨y, hown, -, hrow, hbw, hzr⟩ := hF.s2 v8 rfl
      simp only [putAll, List.zip_cons_cons, List.zip_nil_right, List.foldl_cons, List.foldl_nil]
      simp only [Act.put, List.setIfInBounds_toArray, List.set_cons_succ, List.set_cons_zero]
      have HOW := Lib.hid hown
      have HRW := Lib.hid hrow
      have HBW := Lib.hid hbw
      have HZR := Lib.hid hzr
      have HPZ : Hid ((posA u.h tr u.ld y).size = 7 ∧ (posA u.h tr u.ld y).all (·.oneCell') = true) := Lib.hid ⟨rfl, by
        obtain ⟨ya, yc, rfl, -⟩ := hown.slice
        simp [posA, Value.oneCell']⟩
      have HLW := Lib.hid (show w.heap.size ≤ w9.heap.size from HB9.out.size)
      obtain ⟨PB, hPB⟩ : ∃ A, posA u.h tr u.ld y = A := ⟨_, rfl⟩
      have HPB := Lib.hid hPB
      rw [hPB] at HRW HPZ
      clear hown hrow hbw hzr hF hlen hPB
      go_wp2_with (first
        | refine wpList_load_row rfl 27 (.tmp 9) rfl b9 rfl 27 PB (0, 0) _ HRW.out Tryd.underlying27 rfl (by rw [HPZ.out.1]; exact size_pos) ?_
        | refine wpList_store_row rfl 27 (.tmp 4) (.tmp 46) rfl (w.heap.size + 1) PB rfl rfl 27 _ HZR.out (by rw [HPZ.out.1]; exact size_pos) (by rw [HPZ.out.1]; rfl) HPZ.out.2 ?_)
      refine bodyPost_ret (v := .tuple #[.agg PB, .int .i64 (won : Int), .int .i64 0]) (results_three Tryd.results13 _ _ (w.heap.size + 1) _ PB (0, 0) _ rfl (setRow_heap _ _ _ _ _ _ HZR.out) Tryd.underlying27 rfl (by rw [HPZ.out.1]; exact size_pos)) rfl ⟨y, by rw [HPB.out], ?_, below_setRow HBW.out (Nat.le_succ _) _⟩
      have hl3 := HL3.out
      have hl9 := HL9.out
      exact (HOW.out.same fun g hg hg2 => setRow_other _ _ _ _ (by have := HB9.out.size; have := HR9.out.lt; omega)).mono HLW.out
end Go.Proofs.YtnbillhodbcfbaaDoor
