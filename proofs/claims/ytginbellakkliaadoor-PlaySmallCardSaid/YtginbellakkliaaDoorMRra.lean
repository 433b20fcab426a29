/- Rr0, RrA, RrB, RrC in one text. -/
import Derived.Test.YtginbellakkliaaDoorMRqc
import Derived.Test.YtginbellakkliaaDoorChnL

/- A play of the reference in memory; own lists and rows lie apart. -/
namespace Go.Proofs.YtginbellakkliaaDoor
open Go.RowKit Go.Shelf Go.Sort Go.Maps Go.WideMaps

theorem own_apartR {α : Type} {enc : α → List Value} {m : Nat} {T T' : TypeId} {w : World} {base b : Nat} {v : Value} {l : List α} {cs : Array Value} (h : Owns enc m T w base v l) (hr : Row w b T' cs) (hne : T' ≠ T) : some b ≠ v.ownBlock := by
  intro e
  rcases h.2.2 with ⟨h1, -⟩ | ⟨g, cap, cur, h1, h2, h3, h4⟩
  · rw [h1] at e; cases e
  · rw [h1] at e
    obtain rfl : b = g := by simpa [Value.ownBlock] using e
    have hr : w.heap[b]? = _ := hr
    rw [hr] at h3
    simp only [Option.some.injEq, Obj.cells.injEq] at h3
    exact hne h3.2.1
theorem setRow_otherR {w : World} {B b : Nat} {t : TypeId} {cs : Array Value} (h : Row w B t cs) (hne : B ≠ b) (v : Array Value) : Row (w.setRow b v) B t cs := h.same (by
  show (w.heap.modify b _)[B]? = _
  rw [Array.getElem?_modify, if_neg (Ne.symm hne)])
theorem Row.grownR {W W' : World} {b : Nat} {t : TypeId} {cs : Array Value} {row : Option Nat} (h : Row W b t cs) (hg : W.grownBy W' row) (hne : row ≠ some b) : Row W' b t cs := (hg.block b h.lt fun e => hne e.symm).trans h
theorem grownBy_rowR (W : World) (g : Nat) (cs : Array Value) : W.grownBy (W.setRow g cs) (some g) :=
  ⟨rfl, rfl, rfl, Nat.le_of_eq (size_setRow _ _ _).symm, fun k _ hne => by
    show (W.heap.modify g _)[k]? = _
    rw [Array.getElem?_modify, if_neg (fun e => hne (by rw [e]))]⟩
theorem OwnU.rowR {W : World} {base b : Nat} {v : Value} {l : List Nat} {T' : TypeId} {cs : Array Value} (h : OwnU W base v l) (hr : Row W b T' cs) (hne : T' ≠ 5) (x : Array Value) : OwnU (W.setRow b x) base v l := Owns.kept h (grownBy_rowR W b x) (.inl (own_apartR h hr hne))
theorem OwnU.cellR {W : World} {base b : Nat} {v : Value} {l : List Nat} {T' : TypeId} {cs : Array Value} (h : OwnU W base v l) (hr : Row W b T' cs) (hne : T' ≠ 5) (i : Nat) (x : Value) : OwnU (W.setCell ⟨b, i, none⟩ x) base v l := Owns.kept h (grownBy_set (World.grownBy.refl W (some b)) (.inl rfl) x) (.inl (own_apartR h hr hne))
/-- append(v, src...), v the call's own, src any slice of bytes, as an operation -/
theorem ok_appR {o : Oper} {ρ : Operand → Value} {w : World} {R : Value → World → Prop} (s x : Operand)
    (ho : o.op = .call { callee := .builtin .append, args := #[s, x], argTypes := #[22, 22] })
    (base : Nat) (v : Value) (zs ys : List Nat) (hs : ρ s = v) (hown : OwnU w base v zs) (ad : Option Addr) (m c : Nat) (hx : ρ x = .slice ad m c) (hy : Byt w ad m ys)
    (hbytes : zs.length + m ≤ 140737488355328) (hbase : base ≤ w.heap.size)
    (h : ∀ v' w', OwnU w' base v' (zs ++ ys) → w.grownBy w' v.ownBlock → (v'.ownBlock = v.ownBlock ∨ v'.ownBlock = some w.heap.size) → R v' w') : OpOk Tryd.prog o ρ w R := by
  by_cases hm : m = 0
  · subst hm
    obtain rfl : ys = [] := List.eq_nil_of_length_eq_zero hy.length
    obtain ⟨i0, hi, hz0, hz1, hz2⟩ := info_parts info_u8'
    rcases hown.form with ⟨rfl, rfl⟩ | ⟨g, cap, rfl, h1, h2, h3, h4⟩
    · have hr := run_append_nothing (P := Tryd.prog) w 22 22 o.type 5 i0 Tryd.underlying22 hi none 0 0 (Nat.le_refl _) (.slice ad 0 c) (src_empty Tryd.underlying22 ad c w)
      refine ok_value (v := .slice none 0 0) (w' := w) ?_ (h _ w (by rw [List.append_nil]; exact hown) ⟨rfl, rfl, rfl, Nat.le_refl _, fun _ _ _ => rfl⟩ (.inl rfl))
      unfold execOp
      simp only [ho, resolve, invoke, builtin, Sem.run_bind, Sem.run_pure, Result.andThen_ok, List.map_toArray, List.map_cons, List.map_nil, hs, hx, hr]
    · have hr := run_append_nothing (P := Tryd.prog) w 22 22 o.type 5 i0 Tryd.underlying22 hi (some ⟨g, 0, none⟩) zs.length cap h3 (.slice ad 0 c) (src_empty Tryd.underlying22 ad c w)
      refine ok_value (v := .slice (some ⟨g, 0, none⟩) zs.length cap) (w' := w) ?_ (h _ w (by rw [List.append_nil]; exact hown) ⟨rfl, rfl, rfl, Nat.le_refl _, fun _ _ _ => rfl⟩ (.inl rfl))
      unfold execOp
      simp only [ho, resolve, invoke, builtin, Sem.run_bind, Sem.run_pure, Result.andThen_ok, List.map_toArray, List.map_cons, List.map_nil, hs, hx, hr]
  · obtain ⟨b, off, rfl, -, -⟩ := hy.at (by omega)
    obtain ⟨i0, hi, hz0, hz1, hz2⟩ := info_parts info_u8'
    have hl := hy.length
    obtain ⟨v', w', hr, h1, h3, h5, h4⟩ := run_append_own_at (P := Tryd.prog) (w := w) base 22 o.type 5 i0 (.int .u8 0) 1 1 Tryd.underlying22 hi hz0 hz1 hz2 rfl (by decide) v zs.length (zs.flatMap encU) hown.2 ⟨b, off, none⟩ m c (ys.flatMap encU) (by rw [flatU_len]; omega) (byt_row hy ⟨b, off, none⟩ rfl) (flatU_one ys) (by unfold maxLen; omega) (by omega) hbase
    refine ok_value (v := v') (w' := w') ?_ (h v' w' ⟨encU_len, ?_⟩ h3 h4)
    · unfold execOp
      simp only [ho, resolve, invoke, builtin, Sem.run_bind, Sem.run_pure, Result.andThen_ok, List.map_toArray, List.map_cons, List.map_nil, hs, hx, hr]
    · rw [List.length_append, List.flatMap_append, hl]
      exact h1

/-- the slice a lies in G -/
def In1 (G : Nat → Prop) (a : Option Addr) : Prop := ∀ ad, a = some ad → G ad.block
/-- a play of the reference, and what was taken back, in memory; their blocks lie in G -/
def RpIn (W : World) (r : Rp) (bk : List Nat) (PA : Array Value) (G : Nat → Prop) : Prop :=
  ∃ a cap a2 cap2, PA = r.cells (.slice a r.cs.length cap) (.slice a2 bk.length cap2) ∧ Byt W a r.cs.length r.cs ∧ r.cs.length ≤ cap ∧ In1 G a ∧ Byt W a2 bk.length bk ∧ bk.length ≤ cap2 ∧ In1 G a2
theorem In1.mono {G G' : Nat → Prop} {a : Option Addr} (h : In1 G a) (hg : ∀ g, G g → G' g) : In1 G' a := fun ad e => hg _ (h ad e)
theorem byt_keptR {W W' : World} {a : Option Addr} {len : Nat} {zs : List Nat} {G : Nat → Prop} (h : Byt W a len zs) (hk : Kept G W W') (hg : In1 G a) : Byt W' a len zs := by
  refine ⟨h.length, h.small, h.byte, ?_⟩
  rcases h.cells with h0 | ⟨b, off, rfl, hb, hc⟩
  · exact .inl h0
  · have hG := hg _ rfl
    exact .inr ⟨b, off, rfl, Nat.lt_of_lt_of_le hb hk.size, fun i hi => (hk.cell (p := ⟨b, off + i, none⟩) hG hb).trans (hc i hi)⟩
theorem RpIn.mono {W : World} {r : Rp} {bk : List Nat} {PA : Array Value} {G G' : Nat → Prop} (h : RpIn W r bk PA G) (hg : ∀ g, G g → G' g) : RpIn W r bk PA G' := by
  obtain ⟨a, cap, a2, cap2, h1, h2, h3, h4, h5, h6, h7⟩ := h
  exact ⟨a, cap, a2, cap2, h1, h2, h3, h4.mono hg, h5, h6, h7.mono hg⟩
theorem RpIn.below {W W' : World} {r : Rp} {bk : List Nat} {PA : Array Value} {G : Nat → Prop} (h : RpIn W r bk PA G) (hb : Below W.heap.size W W') : RpIn W' r bk PA G := by
  obtain ⟨a, cap, a2, cap2, h1, h2, h3, h4, h5, h6, h7⟩ := h
  exact ⟨a, cap, a2, cap2, h1, h2.below (Nat.le_refl _) hb, h3, h4, h5.below (Nat.le_refl _) hb, h6, h7⟩
theorem RpIn.kept {W W' : World} {r : Rp} {bk : List Nat} {PA : Array Value} {G : Nat → Prop} (h : RpIn W r bk PA G) (hk : Kept G W W') : RpIn W' r bk PA G := by
  obtain ⟨a, cap, a2, cap2, h1, h2, h3, h4, h5, h6, h7⟩ := h
  exact ⟨a, cap, a2, cap2, h1, byt_keptR h2 hk h4, h3, h4, byt_keptR h5 hk h7, h6, h7⟩
/-- blocks of G, and those made from W to W' -/
abbrev More (G : Nat → Prop) (W W' : World) : Nat → Prop := fun g => G g ∨ (W.heap.size ≤ g ∧ g < W'.heap.size)
/-- an empty play of the reference -/
abbrev zeroRp : Array Value := #[.int .u64 0, .int .u64 0, .int .u64 0, .int .u64 0, .int .u8 0, .int .u8 0, .int .u8 0, .int .u8 0, .slice none 0 0, .slice none 0 0]
theorem rp_one (r : Rp) (a a2 : Option Addr) (n c n2 c2 : Nat) : (r.cells (.slice a n c) (.slice a2 n2 c2)).all (·.oneCell') = true := by simp [Rp.cells, Value.oneCell']
theorem own_in {W : World} {base : Nat} {v : Value} {zs : List Nat} (h : OwnU W base v zs) (hs : zs.length ≤ 60000) (hb : ∀ i, zs.getD i 0 < 256) : ∃ a cap, v = .slice a zs.length cap ∧ zs.length ≤ cap ∧ Byt W a zs.length zs ∧ ∀ ad, a = some ad → base ≤ ad.block ∧ ad.block < W.heap.size := by
  obtain ⟨a, cap, h1, _, h3, _, h5, h6⟩ := OwnU.byt h (by omega) hb
  exact ⟨a, cap, h1, h3, h6, h5⟩
end Go.Proofs.YtginbellakkliaaDoor

/- finesseref12.Last over this seat's program. -/
namespace Go.Proofs.YtginbellakkliaaDoor
open Go.RowKit Go.Shelf Go.Sort Go.Maps Go.WideMaps

def Rp.lsLd (r : Rp) : Nat := if r.cs.length / 4 = 0 then 0 else r.ldr (r.cs.length / 4 - 1)
def Rp.lsCs (r : Rp) : List Nat := if r.cs.length / 4 = 0 then [] else (r.cs.drop (4 * (r.cs.length / 4) - 4)).take 4
theorem results_t3 {fn : Func} {t u v : Tmp} (h : fn.results = #[.tmp t, .tmp u, .tmp v]) (tmps : Array Value) (P : Program) (w : World) :
    (results fn tmps).run P w = .ok (.tuple #[tmps.getD t undef, tmps.getD u undef, tmps.getD v undef]) w := by
  simp [results, h]
def LsR (w1 : World) (L : List Nat) (x k : Nat) (vs _us : List Value) (W : World) : Prop := Below w1.heap.size w1 W ∧ match vs with
  | [] => True
  | [v] => OwnU W w1.heap.size v L
  | [_, p] => ∃ g, p = .pointer (some ⟨g, k, none⟩) ∧ W.cell? ⟨g, k, none⟩ = some (.int .u8 (x : Int))
  | [_, _, y] => y = .int .u8 (x : Int)
  | _ => False
theorem LsR.val {w1 : World} {L : List Nat} {x k : Nat} {vs us : List Value} {W : World} {y : Value} (h : LsR w1 L x k vs us W) (hy : vs[2]? = some y) : y = .int .u8 (x : Int) := by
  obtain ⟨-, h⟩ := h
  match vs, h, hy with
  | [_, _, z], h, hy => rw [← h]; exact (Option.some.inj (show some z = some y from hy)).symm
theorem lds_slice (r : Rp) {W : World} {base : Nat} {v : Value} {k : Nat} (hown : OwnU W base v r.lds) (hk : k ≤ r.cs.length / 4) {M : Nat} (hM : r.cs.length / 4 + 1 = M) : ∃ g c, v = .slice (some ⟨g, 0, none⟩) M c ∧ W.cell? ⟨g, k, none⟩ = some (.int .u8 (r.ldr k : Int)) := by
  have hln := lds_len r
  obtain ⟨v2, c2, hve, hvs⟩ := hown.slice
  obtain ⟨g, rfl⟩ := hvs (by intro e; rw [e] at hln; simp at hln)
  subst hve
  refine ⟨g, c2, by rw [hln, hM], ?_⟩
  have := hown.cell k 0 (by decide) (lds_get r hk)
  rw [Nat.mul_one, Nat.add_zero] at this
  exact this
set_option maxHeartbeats 4000000 in
set_option maxRecDepth 10000 in
theorem rq_Last (r : Rp) (hr : r.ok) (a : Option Addr) (cap : Nat) (vb : Value) (w : World) (hz : Byt w a r.cs.length r.cs) (hcap : r.cs.length ≤ cap) :
    Calls Tryd.prog 70 #[.agg (r.cells (.slice a r.cs.length cap) vb)] w fun e w' => ∃ a' c', e = .returned (.tuple #[.int .u8 (r.lsLd : Int), .slice a' r.lsCs.length c', .bool (decide (4 ≤ r.cs.length))]) ∧ Byt w' a' r.lsCs.length r.lsCs ∧ Below w.heap.size w w' := by
  have HLS := Lib.hid (fun W (hzW : Byt W a r.cs.length r.cs) => rq_Leaders r hr a cap vb W hzW hcap)
  have HT1 : Hid (r.lsLd = if r.cs.length / 4 = 0 then 0 else r.ldr (r.cs.length / 4 - 1)) := Lib.hid rfl
  have HT2 : Hid (r.lsCs = if r.cs.length / 4 = 0 then [] else (r.cs.drop (4 * (r.cs.length / 4) - 4)).take 4) := Lib.hid rfl
  have HFL : Hid (decide (4 ≤ r.cs.length) = decide (r.cs.length / 4 ≠ 0)) := Lib.hid (decide_eq_decide.2 (by omega))
  have h52 := hr.len
  have hcp := hcap
  obtain ⟨tl, htl⟩ : ∃ t, r.lsLd = t := ⟨_, rfl⟩
  obtain ⟨tc, htc⟩ : ∃ t, r.lsCs = t := ⟨_, rfl⟩
  rw [htl] at HT1 ⊢
  rw [htc] at HT2 ⊢
  rw [HFL.out]
  clear htl htc HFL
  have HYZ := Lib.hid hz
  have HR := Lib.hid (Row.new w 71 (r.cells (.slice a r.cs.length cap) vb))
  have HB := Lib.hid ((Below.refl w.heap.size w).alloc (Nat.le_refl _) (.cells (r.cells (.slice a r.cs.length cap) vb) 71))
  have HY1 := Lib.hid (hz.below (Nat.le_refl _) HB.out)
  obtain ⟨PA, hPA⟩ : ∃ A, r.cells (.slice a r.cs.length cap) vb = A := ⟨_, rfl⟩
  have HPZ : Hid (PA.size = 10) := Lib.hid (by rw [← hPA]; rfl)
  have HPE := Lib.hid hPA
  rw [hPA] at HR HB HY1 ⊢
  clear hPA hz hcap hr
  go_enter Tryd.func70, Tryd.ntmps70
  go_upto_region 1 with fail
  show Code.wp _ _ _ _ (w.alloc (.cells PA 71))
  generalize w.alloc (.cells PA 71) = w1 at *
  obtain ⟨b, hb⟩ : ∃ b, w.heap.size = b := ⟨_, rfl⟩
  have HBE := Lib.hid hb
  rw [hb] at HR ⊢
  clear hb
  rw [HPE.out] at HLS
  have c8 : w1.cell? ⟨b, 8, none⟩ = some (.slice a r.cs.length cap) := by rw [HR.out.cell 8, ← HPE.out]; rfl
  obtain ⟨n, hn⟩ : ∃ n, r.cs.length = n := ⟨_, rfl⟩
  have HN := Lib.hid hn
  obtain ⟨m, hm⟩ : ∃ m, n / 4 = m := ⟨_, rfl⟩
  have HM : Hid (r.cs.length / 4 = m) := Lib.hid (by rw [hn]; exact hm)
  rw [HM.out] at HT1 HT2
  rw [hn] at c8 h52 hcp HY1 HPE
  have e1 : (n : Int).tdiv 4 = (m : Int) := by rw [Int.tdiv_eq_ediv_of_nonneg (by omega)]; omega
  have e1' : (n : Int) / 4 = (m : Int) := by omega
  have hm1 : 4 * m ≤ n := by omega
  have hm2 : n < 4 * m + 4 := by omega
  clear hn hm
  by_cases h0 : m = 0
  · have HTL := Lib.hid (HT1.out.trans (if_pos h0))
    have HTC := Lib.hid (HT2.out.trans (if_pos h0))
    have HD : Hid (decide (r.cs.length / 4 ≠ 0) = false) := Lib.hid (by rw [HM.out]; simp [h0])
    have hb0 : ((m : Int) == 0) = true := by rw [beq_iff_eq]; omega
    clear h0
    go_wp2_with fail
    refine bodyPost_ret (results_t3 rfl _ _ _) rfl ?_
    exact ⟨none, 0, by rw [HTL.out, HTC.out, HD.out]; rfl, by rw [HTC.out]; exact byt_nilR _, HB.out⟩
  · have HTL := Lib.hid (HT1.out.trans (if_neg h0))
    have HTC := Lib.hid (HT2.out.trans (if_neg h0))
    have HD : Hid (decide (r.cs.length / 4 ≠ 0) = true) := Lib.hid (by rw [HM.out]; simp [h0])
    have hb0 : ((m : Int) == 0) = false := by rw [beq_eq_false_iff_ne]; omega
    obtain ⟨k, hk⟩ : ∃ k, m - 1 = k := ⟨_, rfl⟩
    have HK : Hid (k ≤ r.cs.length / 4) := Lib.hid (by rw [HM.out]; omega)
    rw [hk] at HTL
    obtain ⟨x, hx⟩ : ∃ x, r.ldr k = x := ⟨_, rfl⟩
    have HXE := Lib.hid hx
    rw [hx] at HTL
    obtain ⟨h4, hh4⟩ : ∃ z, 4 * m = z := ⟨_, rfl⟩
    obtain ⟨l4, hl4⟩ : ∃ z, h4 - 4 = z := ⟨_, rfl⟩
    rw [hh4, hl4] at HTC
    obtain ⟨a', hsl, hby, -⟩ := mid_run a n cap l4 h4 r.cs w1 (by omega) (by omega) hcp HY1.out
    have h44 : h4 - l4 = 4 := by omega
    rw [h44] at hsl hby
    rw [← HTC.out] at hby
    have HBY := Lib.hid hby
    have HL4 : Hid (tc.length = 4) := Lib.hid hby.length
    have ek1 : (m : Int) - 1 = (k : Int) := by omega
    have e4 : (4 : Int) * (m : Int) = (h4 : Int) := by omega
    have e5 : (h4 : Int) - 4 = (l4 : Int) := by omega
    have ekw : IntKind.i64.wrap (k : Int) = (k : Int) := by rw [IntKind.wrap_i64]; omega
    have e4w : IntKind.i64.wrap (h4 : Int) = (h4 : Int) := by rw [IntKind.wrap_i64]; omega
    have e5w : IntKind.i64.wrap (l4 : Int) = (l4 : Int) := by rw [IntKind.wrap_i64]; omega
    obtain ⟨M1, hM1⟩ : ∃ z, r.cs.length / 4 + 1 = z := ⟨_, rfl⟩
    have HM1 := Lib.hid hM1
    have hkI : (k : Int) < (M1 : Int) := by have := HK.out; omega
    clear hM1
    clear h0 hk hx hh4 hl4 hby h44 HTC HT1 HT2
    go_upto_region 4 with fail
    refine wp_region_reliesS (ChF [.agg PA, undef, .int .i64 (m : Int), .int .i64 (k : Int), undef, undef, .pointer (some ⟨b, 8, none⟩), .slice a n cap, .int .i64 (m : Int), .int .i64 (h4 : Int), .int .i64 (l4 : Int), .int .i64 (m : Int), .int .i64 (h4 : Int), (.slice a' 4 (cap - l4)), .int .u8 (x : Int), (.slice a' 4 (cap - l4)), .bool true] [1, 4, 5] [] (LsR w1 r.lds x k)) (by kernel_rfl) (by kernel_rfl) (by kernel_rfl) (by kernel_rfl) (ChF.start ⟨(Below.refl _ _).drew, trivial⟩) ?obls ?fini
    case obls =>
      refine ⟨?_, ?_, ?_, ?_, ?_, ?_, ?_, ?_, ?_, ?_, ?_, ?_, ?_, ?_, ?_, ?_, ?_, trivial⟩
      · rintro ρ f W ⟨vs, us, hX⟩ hfi hw hcl hf
        have f1 : ρ (.tmp 1) = .pointer (some ⟨b, 0, none⟩) := hf.1 1 (by simp [Op.operands])
        exact ok_value (exec_load_row 71 (.tmp 1) rfl b f1 (HR.out.later hX.st.1) Tryd.underlying71 rfl (by rw [HPZ.out]; exact size_rp)) (hX.pure 0 _ (by decide) (by decide) rfl hX.st)
      · rintro ρ f W ⟨vs, us, hX⟩ hfi hw hcl hf
        have f12 : ρ (.tmp 12) = .agg PA := hX.val 0 _ _ (by decide) (by decide) (hf.1 12 (by simp [Op.operands, Call.operands])) rfl
        have hl := hX.le1 0 1 rfl hfi
        obtain rfl := list0 hl
        obtain ⟨hB, -⟩ := hX.st
        refine ok_call (f := 86) (args := #[.agg PA]) (by simp [execOp, f12, hf.2.2.2, go_sem]) ((HLS.out W (by rw [HN.out]; exact HY1.out.below (Nat.le_refl _) hB)).mono ?_)
        rintro e w' ⟨v, rfl, ho, hb'⟩
        exact ⟨v, rfl, hX.step1 1 _ rfl (by decide) (by decide) ⟨hB.trans (hb'.mono hB.size), ho.mono hB.size⟩⟩
      · rintro ρ f W ⟨vs, us, hX⟩ hfi hw hcl hf
        have f5 : ρ (.tmp 5) = .int .i64 (m : Int) := hf.1 5 (by simp [Op.operands])
        exact ok_value (v := .int .i64 (m : Int)) (w' := W) (by simp [execOp, f5]) (hX.pure 2 _ (by decide) (by decide) rfl hX.st)
      · rintro ρ f W ⟨vs, us, hX⟩ hfi hw hcl hf
        have f14 : ρ (.tmp 14) = .int .i64 (m : Int) := hX.val 2 _ _ (by decide) (by decide) (hf.1 14 (by simp [Op.operands])) rfl
        exact ok_value (v := .int .i64 (k : Int)) (w' := W) (by simp [execOp, f14, hf.2.1, go_sem, ek1, ekw]) (hX.pure 3 _ (by decide) (by decide) rfl hX.st)
      · rintro ρ f W ⟨vs, us, hX⟩ hfi hw hcl hf
        have g13 := hX.get1 0 1 rfl (hf.1 13 (by simp [Op.operands]))
        have f15 : ρ (.tmp 15) = .int .i64 (k : Int) := hX.val 3 _ _ (by decide) (by decide) (hf.1 15 (by simp [Op.operands])) rfl
        have hl := hX.le1 1 4 rfl hfi
        obtain rfl := list1 hl g13
        obtain ⟨hB, hO⟩ := hX.st
        obtain ⟨y, hy⟩ : ∃ y, ρ (.tmp 13) = y := ⟨_, rfl⟩
        rw [hy] at hO
        obtain ⟨g, c, hve, hck⟩ := lds_slice r hO HK.out HM1.out
        rw [hve] at hy
        exact ok_value (v := .pointer (some ⟨g, k, none⟩)) (w' := W) (by simp [execOp, hy, f15, go_sem, hkI]) (hX.step1 4 _ rfl (by decide) (by decide) ⟨hB, g, rfl, by rw [← HXE.out]; exact hck⟩)
      · rintro ρ f W ⟨vs, us, hX⟩ hfi hw hcl hf
        have g16 := hX.get1 1 4 rfl (hf.1 16 (by simp [Op.operands]))
        have hl := hX.le1 2 5 rfl hfi
        obtain ⟨y, rfl⟩ := list2 hl g16
        obtain ⟨hB, g, hp, hc⟩ := hX.st
        exact ok_value (v := .int .u8 (x : Int)) (w' := W) (by simp [execOp, hp, hc, go_sem]) (hX.step1 5 _ rfl (by decide) (by decide) ⟨hB, rfl⟩)
      · rintro ρ f W ⟨vs, us, hX⟩ hfi hw hcl hf
        have f1 : ρ (.tmp 1) = .pointer (some ⟨b, 0, none⟩) := hf.1 1 (by simp [Op.operands])
        exact ok_value (v := .pointer (some ⟨b, 8, none⟩)) (w' := W) (by simp [execOp, f1, go_sem]) (hX.pure 6 _ (by decide) (by decide) rfl hX.st)
      · rintro ρ f W ⟨vs, us, hX⟩ hfi hw hcl hf
        have f18 : ρ (.tmp 18) = .pointer (some ⟨b, 8, none⟩) := hX.val 6 _ _ (by decide) (by decide) (hf.1 18 (by simp [Op.operands])) rfl
        have c8 : W.cell? ⟨b, 8, none⟩ = some (.slice a n cap) := by rw [(HR.out.later hX.st.1).cell 8, ← HPE.out]; rfl
        exact ok_value (v := .slice a n cap) (w' := W) (by simp [execOp, f18, go_sem, c8]) (hX.pure 7 _ (by decide) (by decide) rfl hX.st)
      · rintro ρ f W ⟨vs, us, hX⟩ hfi hw hcl hf
        have f5 : ρ (.tmp 5) = .int .i64 (m : Int) := hf.1 5 (by simp [Op.operands])
        exact ok_value (v := .int .i64 (m : Int)) (w' := W) (by simp [execOp, f5]) (hX.pure 8 _ (by decide) (by decide) rfl hX.st)
      · rintro ρ f W ⟨vs, us, hX⟩ hfi hw hcl hf
        have f20 : ρ (.tmp 20) = .int .i64 (m : Int) := hX.val 8 _ _ (by decide) (by decide) (hf.1 20 (by simp [Op.operands])) rfl
        exact ok_value (v := .int .i64 (h4 : Int)) (w' := W) (by simp [execOp, f20, hf.2.1, go_sem, e4, e4w]) (hX.pure 9 _ (by decide) (by decide) rfl hX.st)
      · rintro ρ f W ⟨vs, us, hX⟩ hfi hw hcl hf
        have f21 : ρ (.tmp 21) = .int .i64 (h4 : Int) := hX.val 9 _ _ (by decide) (by decide) (hf.1 21 (by simp [Op.operands])) rfl
        exact ok_value (v := .int .i64 (l4 : Int)) (w' := W) (by simp [execOp, f21, hf.2.1, go_sem, e5, e5w]) (hX.pure 10 _ (by decide) (by decide) rfl hX.st)
      · rintro ρ f W ⟨vs, us, hX⟩ hfi hw hcl hf
        have f5 : ρ (.tmp 5) = .int .i64 (m : Int) := hf.1 5 (by simp [Op.operands])
        exact ok_value (v := .int .i64 (m : Int)) (w' := W) (by simp [execOp, f5]) (hX.pure 11 _ (by decide) (by decide) rfl hX.st)
      · rintro ρ f W ⟨vs, us, hX⟩ hfi hw hcl hf
        have f23 : ρ (.tmp 23) = .int .i64 (m : Int) := hX.val 11 _ _ (by decide) (by decide) (hf.1 23 (by simp [Op.operands])) rfl
        exact ok_value (v := .int .i64 (h4 : Int)) (w' := W) (by simp [execOp, f23, hf.2.1, go_sem, e4, e4w]) (hX.pure 12 _ (by decide) (by decide) rfl hX.st)
      · rintro ρ f W ⟨vs, us, hX⟩ hfi hw hcl hf
        have f19 : ρ (.tmp 19) = .slice a n cap := hX.val 7 _ _ (by decide) (by decide) (hf.1 19 (by simp [Op.operands])) rfl
        have f22 : ρ (.tmp 22) = .int .i64 (l4 : Int) := hX.val 10 _ _ (by decide) (by decide) (hf.1 22 (by simp [Op.operands])) rfl
        have f24 : ρ (.tmp 24) = .int .i64 (h4 : Int) := hX.val 12 _ _ (by decide) (by decide) (hf.1 24 (by simp [Op.operands])) rfl
        exact ok_value (v := (.slice a' 4 (cap - l4))) (w' := W) (by simp [execOp, f19, f22, f24, go_sem, hsl]) (hX.pure 13 _ (by decide) (by decide) rfl hX.st)
      · rintro ρ f W ⟨vs, us, hX⟩ hfi hw hcl hf
        have g17 := hX.get1 2 5 rfl (hf.1 17 (by simp [Op.operands]))
        have hy := LsR.val hX.st g17
        exact ok_value (v := .int .u8 (x : Int)) (w' := W) (by simp [execOp, hy, go_sem]) (hX.pure 14 _ (by decide) (by decide) rfl hX.st)
      · rintro ρ f W ⟨vs, us, hX⟩ hfi hw hcl hf
        have f25 : ρ (.tmp 25) = (.slice a' 4 (cap - l4)) := hX.val 13 _ _ (by decide) (by decide) (hf.1 25 (by simp [Op.operands])) rfl
        exact ok_value (v := (.slice a' 4 (cap - l4))) (w' := W) (by simp [execOp, f25, go_sem]) (hX.pure 15 _ (by decide) (by decide) rfl hX.st)
      · rintro ρ f W ⟨vs, us, hX⟩ hfi hw hcl hf
        exact ok_value (v := .bool true) (w' := W) (by simp [execOp, hf.2.1]) (hX.pure 16 _ (by decide) (by decide) rfl hX.st)
    case fini =>
      rintro us w5 hlen ⟨vs, us', hX⟩
      have hl0 : us.length = 17 := hlen
      obtain ⟨hB5, -⟩ := hX.st
      have HB5 := Lib.hid (HB.out.trans (hB5.mono HB.out.size))
      have HY5 := Lib.hid (HBY.out.below (Nat.le_refl _) hB5)
      match us, hl0, hX with
      | [u0, u1, u2, u3, u4, u5, u6, u7, u8, u9, u10, u11, u12, u13, u14, u15, u16], _, hX =>
        have q14 := hX.val 14 _ _ (by decide) (by decide) rfl rfl
        have q15 := hX.val 15 _ _ (by decide) (by decide) rfl rfl
        have q16 := hX.val 16 _ _ (by decide) (by decide) rfl rfl
        subst q14 q15 q16
        clear hX hB5
        simp only [putAll, List.zip_cons_cons, List.zip_nil_right, List.foldl_cons, List.foldl_nil]
        simp only [Act.put, List.setIfInBounds_toArray, List.set_cons_succ, List.set_cons_zero]
        go_wp2_with fail
        refine bodyPost_ret (results_t3 rfl _ _ _) rfl ?_
        exact ⟨a', _, by rw [HTL.out, HD.out, HL4.out]; rfl, by rw [HL4.out]; exact HY5.out, HB5.out⟩
end Go.Proofs.YtginbellakkliaaDoor

/- finesseref12.Do over this seat's program. -/
namespace Go.Proofs.YtginbellakkliaaDoor
open Go.RowKit Go.Shelf Go.Sort Go.Maps Go.WideMaps
attribute [local go_sem] Oper.semAt_some

theorem snoc_byte {w : World} {a : Option Addr} {n : Nat} {l : List Nat} (h : Byt w a n l) {c : Nat} (hc : c < 256) (i : Nat) : (l ++ [c]).getD i 0 < 256 := by
  have := h.byte i
  rw [List.getD_eq_getElem?_getD] at this ⊢
  rcases Nat.lt_or_ge i l.length with h1 | h1
  · rwa [List.getElem?_append_left h1]
  · rw [List.getElem?_append_right h1]
    rcases Nat.eq_zero_or_pos (i - l.length) with h2 | h2
    · rw [h2]; simpa using hc
    · rw [List.getElem?_eq_none (by simp; omega)]; simp
theorem hand_w64R (r : Rp) (hr : r.ok) (s : Nat) : W64 (r.hand s) := by unfold Rp.hand; split; exact takeAll_w64 (hr.d _) _; unfold W64; omega
theorem legal_w64R (r : Rp) (hr : r.ok) : W64 r.legal := by
  unfold Rp.legal
  split
  · unfold W64; omega
  · exact playableV_w64 _ _ (hand_w64R r hr _)
/-- Do of the reference: the error, the play behind it, and what was taken back -/
def Rp.doV (r : Rp) (bk : List Nat) (c : Nat) : Nat × Rp × List Nat := if r.over then (121, r, bk) else if c < 52 ∧ r.legal.testBit c = true then (0, { r with cs := r.cs ++ [c] }, []) else (122, r, bk)
theorem rp_cset (r : Rp) (v u x : Value) : (r.cells v u).setIfInBounds 8 x = r.cells x u := rfl
theorem rp_bset (r : Rp) (v u x : Value) : (r.cells v u).setIfInBounds 9 x = r.cells v x := rfl
set_option maxHeartbeats 4000000 in
set_option maxRecDepth 10000 in
theorem rq_Do (r : Rp) (hr : r.ok) (bk : List Nat) (PA : Array Value) (G : Nat → Prop) (w : World) (hin : RpIn w r bk PA G) (c : Nat) (hc : c < 256) :
    Calls Tryd.prog 56 #[.agg PA, .int .u8 (c : Int)] w fun e w' => ∃ PA', e = .returned (.tuple #[.agg PA', .int .i64 ((r.doV bk c).1 : Int)]) ∧ RpIn w' (r.doV bk c).2.1 (r.doV bk c).2.2 PA' (More G w w') ∧ Below w.heap.size w w' := by
  have HIN := Lib.hid hin
  obtain ⟨a, cap, a2, cap2, hPA, hz, hcap, hga, -, -, -⟩ := hin
  have hov := fun W => rq_Over r hr a cap (.slice a2 bk.length cap2) W
  have hlg := fun W (hzW : Byt W a r.cs.length r.cs) => rq_Legal r hr a cap (.slice a2 bk.length cap2) W hzW hcap
  have HLW : Hid (W64 r.legal) := Lib.hid (legal_w64R r hr)
  have HD : Hid (r.doV bk c = if r.over then (121, r, bk) else if c < 52 ∧ r.legal.testBit c = true then (0, { r with cs := r.cs ++ [c] }, []) else (122, r, bk)) := Lib.hid rfl
  rw [← hPA] at hov hlg
  have HOV := Lib.hid hov
  have HLG := Lib.hid hlg
  have HZY := Lib.hid hz
  have HGA := Lib.hid hga
  have h52 := hr.len
  obtain ⟨o, ho⟩ : ∃ o, r.over = o := ⟨_, rfl⟩
  rw [ho] at HOV HD
  obtain ⟨L, hL⟩ : ∃ o, r.legal = o := ⟨_, rfl⟩
  rw [hL] at HLG HD HLW
  clear ho hL hov hlg hz hga hcap
  have HPZ : Hid (PA.size = 10) := Lib.hid (by rw [hPA]; rfl)
  have HPE := Lib.hid hPA
  have HPO : Hid (PA.all (·.oneCell') = true) := Lib.hid (by rw [hPA]; exact rp_one _ _ _ _ _ _ _)
  have HZZ : Hid (zeroRp.size = 10) := Lib.hid rfl
  obtain ⟨ZA, hZA⟩ : ∃ z, zeroRp = z := ⟨_, rfl⟩
  have HZE := Lib.hid hZA
  rw [hZA] at HZZ
  have HR4 := Lib.hid ((Row.new w 71 PA).alloc (.cells ZA 71))
  have hz0 := Row.new (w.alloc (.cells PA 71)) 71 ZA
  rw [show (w.alloc (.cells PA 71)).heap.size = w.heap.size + 1 by simp] at hz0
  have HZ4 := Lib.hid hz0
  have HB4 := Lib.hid (((Below.refl w.heap.size w).alloc (Nat.le_refl _) (.cells PA 71)).alloc (by simp) (.cells ZA 71))
  clear hPA hz0
  go_enter Tryd.func56, Tryd.ntmps56
  go_upto_region 1 with fail
  show Code.wp _ _ _ _ ((w.alloc (.cells PA 71)).alloc (.cells ZA 71))
  clear hZA
  generalize (w.alloc (.cells PA 71)).alloc (.cells ZA 71) = w1 at *
  obtain ⟨b, hb⟩ : ∃ b, w.heap.size = b := ⟨_, rfl⟩
  obtain ⟨b4, hb4⟩ : ∃ x, w.heap.size + 1 = x := ⟨_, rfl⟩
  have HBS : Hid (w.heap.size = b ∧ b4 = b + 1) := Lib.hid ⟨hb, by omega⟩
  rw [hb] at HR4
  rw [hb4] at HZ4 ⊢
  rw [hb]
  clear hb hb4
  go_wp2_with (refine wpList_load_row rfl 71 (.tmp 2) rfl b rfl 71 PA (0, 0) _ HR4.out Tryd.underlying71 rfl (by rw [HPZ.out]; exact size_rp) ?_)
  refine (HOV.out _).mono ?_
  rintro e w2 ⟨rfl, hb2⟩
  have HR5 := Lib.hid (HR4.out.later hb2)
  have HZ5 := Lib.hid (HZ4.out.later hb2)
  have HB5 := Lib.hid (HB4.out.trans (hb2.mono HB4.out.size))
  clear hb2 HOV HR4 HZ4 HB4
  cases o
  · have HD1 := Lib.hid (HD.out.trans (if_neg (by decide)))
    have HY5 := Lib.hid (HZY.out.below (Nat.le_refl _) HB5.out)
    by_cases h51 : c < 52
    · have hd1 : decide ((c : Int) > 51) = false := by rw [decide_eq_false_iff_not]; omega
      go_upto_region 3 with fail
      have HHS := Lib.hid (fun W => ref_Has L c W HLW.out)
      go_wp2_with (refine load_row_g (by rfl) 71 (.tmp 2) rfl b rfl 71 PA (0, 0) _ HR5.out Tryd.underlying71 rfl (by rw [HPZ.out]; exact size_rp) ?_)
      refine (HLG.out _ HY5.out).mono ?_
      rintro e w3 ⟨rfl, hb3⟩
      have HR6 := Lib.hid (HR5.out.later hb3)
      have HZ6 := Lib.hid (HZ5.out.later hb3)
      have HB6 := Lib.hid (HB5.out.trans (hb3.mono HB5.out.size))
      have HY6 := Lib.hid (HY5.out.below (Nat.le_refl _) hb3)
      clear hb3 HLG HR5 HZ5 HB5 HY5
      go_wp2_with fail
      refine (HHS.out _).mono ?_
      rintro e w4 ⟨rfl, rfl⟩
      clear HHS
      cases hbt : L.testBit c
      · have HD2 := Lib.hid (HD1.out.trans (if_neg (fun h => by rw [hbt] at h; cases h.2)))
        have HE : Hid ((r.doV bk c).1 = 122) := Lib.hid (by rw [HD2.out])
        have HRE : Hid ((r.doV bk c).2 = (r, bk)) := Lib.hid (by rw [HD2.out])
        clear hbt
        go_wp2_with (first
          | refine wpList_load_row rfl 71 (.tmp 2) rfl b rfl 71 PA (0, 0) _ HR6.out Tryd.underlying71 rfl (by rw [HPZ.out]; exact size_rp) ?_
          | refine wpList_store_row rfl 71 (.tmp 4) (.tmp 18) rfl b4 PA rfl rfl 71 _ HZ6.out (by rw [HPZ.out]; exact size_rp) (by rw [HZZ.out, HPZ.out]) HPO.out ?_)
        refine bodyPost_ret (v := .tuple #[.agg PA, .int .i64 122]) (results_cellt Tryd.results56 _ _ b4 _ PA (0, 0) _ rfl (setRow_heap _ _ _ _ _ _ HZ6.out) Tryd.underlying71 rfl (by rw [HPZ.out]; exact size_rp)) rfl ⟨PA, by rw [HE.out]; rfl, by rw [HRE.out]; exact (HIN.out.below (below_setRow HB6.out (by have := HBS.out; omega) _)).mono (fun _ h => .inl h), below_setRow HB6.out (by have := HBS.out; omega) _⟩

      · have HD2 := Lib.hid (HD1.out.trans (if_pos ⟨h51, hbt⟩))
        have HE : Hid ((r.doV bk c).1 = 0) := Lib.hid (by rw [HD2.out])
        have HRE : Hid ((r.doV bk c).2 = ({ r with cs := r.cs ++ [c] }, [])) := Lib.hid (by rw [HD2.out])
        clear hbt hd1
        obtain ⟨n, hn⟩ : ∃ n, r.cs.length = n := ⟨_, rfl⟩
        have HN := Lib.hid hn
        rw [hn] at h52 HPE HY6
        clear hn
        have c8 : (w3.alloc (.cells #[] 5)).cell? ⟨b, 8, none⟩ = some (.slice a n cap) := by rw [(HR6.out.alloc _).cell 8, HPE.out]; rfl
        obtain ⟨n1, hn1⟩ : ∃ z, (r.cs ++ [c]).length = z := ⟨_, rfl⟩
        have HN1 := Lib.hid hn1
        clear hn1
        have HSZ3 : Hid (w.heap.size + 2 ≤ w3.heap.size) := Lib.hid (by have := HZ6.out.lt; have := HBS.out; omega)
        go_upto_region 6 with (first
          | (at_builtin; refine appB rfl (.tmp 19) (.tmp 21) rfl w3.heap.size _ [] r.cs rfl (ownU_made0 w3 _ (Nat.le_refl _)) a n cap rfl (HY6.out.below (Nat.le_refl _) ((Below.refl _ _).alloc (Nat.le_refl _) _)) (by simp; omega) (by simp) ?_; intro v3 w10 hown10 hb10 hg10 hnb10; have HO10 := Lib.hid hown10; have HB10 := Lib.hid (((Below.refl w3.heap.size w3).alloc (Nat.le_refl _) (.cells #[] 5)).trans hb10); have HR10 := Lib.hid ((HR6.out.alloc (.cells #[] 5)).grownR hg10 (fun e => own_apartR (ownU_made0 w3 w3.heap.size (Nat.le_refl _)) (HR6.out.alloc (.cells #[] 5)) (by decide) e.symm)); have HZ10 := Lib.hid ((HZ6.out.alloc (.cells #[] 5)).grownR hg10 (fun e => own_apartR (ownU_made0 w3 w3.heap.size (Nat.le_refl _)) (HZ6.out.alloc (.cells #[] 5)) (by decide) e.symm)); rw [List.nil_append] at HO10; clear hown10 hb10 hg10 hnb10 c8)
          | (at_builtin; refine appU rfl (.tmp 22) (.tmp 24) rfl w3.heap.size _ r.cs [c] rfl (HO10.out.alloc _) _ _ _ rfl (byt_new1 w10 c hc) (by rw [HN.out]; omega) (by rw [World.size_alloc]; have := HB10.out.size; omega) ?_; intro v4 w11 hown11 hb11 hg11 hnb11; have HB11 := Lib.hid (HB10.out.trans (((Below.refl w3.heap.size w10).alloc HB10.out.size (.cells #[.int .u8 (c : Int)] 5)).trans hb11)); obtain ⟨a4, cap4, hv4, hc4, hy4, hp4⟩ := own_in hown11 (by rw [List.length_append, HN.out, List.length_singleton]; omega) (snoc_byte HZY.out hc); rw [HN1.out] at hv4 hc4; subst hv4; have HO11 := Lib.hid hown11; have HC4 := Lib.hid hc4; have HR11 := Lib.hid ((HR10.out.alloc (.cells #[.int .u8 (c : Int)] 5)).grownR hg11 (fun e => own_apartR HO10.out HR10.out (by decide) e.symm)); have HZ11 := Lib.hid ((HZ10.out.alloc (.cells #[.int .u8 (c : Int)] 5)).grownR hg11 (fun e => own_apartR HO10.out HZ10.out (by decide) e.symm)); clear hown11 hb11 hg11 hnb11 hy4 hp4 hc4; have c8 : w11.cell? ⟨b, 8, none⟩ = some (.slice a n cap) := (HR11.out.cell 8).trans (congrArg (fun A : Array Value => A[8]?) HPE.out); have f8 := HR11.out.frozen 8; have c9 : w11.cell? ⟨b, 9, none⟩ = some (.slice a2 bk.length cap2) := (HR11.out.cell 9).trans (congrArg (fun A : Array Value => A[9]?) HPE.out); have f9 := HR11.out.frozen 9))
        go_upto_region 7 with fail
        show Code.wp _ _ _ _ ((w11.setCell ⟨b, 8, none⟩ (.slice a4 n1 cap4)).setCell ⟨b, 9, none⟩ (.slice none 0 0))
        have HO12 := Lib.hid ((HO11.out.cellR HR11.out (by decide) 8 (.slice a4 n1 cap4)).cellR (HR11.out.set 8 (.slice a4 n1 cap4)) (by decide) 9 (.slice none 0 0))
        have HR12 := Lib.hid ((HR11.out.set 8 (.slice a4 n1 cap4)).set 9 (.slice none 0 0))
        have HZ12 := Lib.hid ((HZ11.out.other (B' := b) (i := 8) (v := .slice a4 n1 cap4) (by have := HBS.out; omega)).other (B' := b) (i := 9) (v := .slice none 0 0) (by have := HBS.out; omega))
        have HB12 := Lib.hid (((HB6.out.trans (HB11.out.mono HB6.out.size)).setCell (p := ⟨b, 8, none⟩) (by have := HBS.out; show w.heap.size ≤ b; omega) (.slice a4 n1 cap4)).setCell (p := ⟨b, 9, none⟩) (by have := HBS.out; show w.heap.size ≤ b; omega) (.slice none 0 0))
        have HQE : Hid ((PA.setIfInBounds 8 (.slice a4 n1 cap4)).setIfInBounds 9 (.slice none 0 0) = ({ r with cs := r.cs ++ [c] } : Rp).cells (.slice a4 n1 cap4) (.slice none 0 0)) := Lib.hid (by rw [HPE.out]; rfl)
        have HSW : Hid (w11.heap.size = ((w11.setCell ⟨b, 8, none⟩ (.slice a4 n1 cap4)).setCell ⟨b, 9, none⟩ (.slice none 0 0)).heap.size) := Lib.hid (by simp [World.setCell])
        generalize (w11.setCell ⟨b, 8, none⟩ (.slice a4 n1 cap4)).setCell ⟨b, 9, none⟩ (.slice none 0 0) = w12 at *
        obtain ⟨QA, hQA⟩ : ∃ A, (PA.setIfInBounds 8 (.slice a4 n1 cap4)).setIfInBounds 9 (.slice none 0 0) = A := ⟨_, rfl⟩
        rw [hQA] at HR12 HQE
        have HQZ : Hid (QA.size = 10 ∧ QA.all (·.oneCell') = true) := Lib.hid (by rw [HQE.out]; exact ⟨rfl, rp_one _ _ _ _ _ _ _⟩)
        clear hQA c8 c9 f8 f9 HR11 HZ11
        go_wp2_with (first
          | refine wpList_load_row rfl 71 (.tmp 2) rfl b rfl 71 QA (0, 0) _ HR12.out Tryd.underlying71 rfl (by rw [HQZ.out.1]; exact size_rp) ?_
          | refine wpList_store_row rfl 71 (.tmp 4) (.tmp 28) rfl b4 QA rfl rfl 71 _ HZ12.out (by rw [HQZ.out.1]; exact size_rp) (by rw [HZZ.out, HQZ.out.1]) HQZ.out.2 ?_)
        refine bodyPost_ret (v := .tuple #[.agg QA, .int .i64 0]) (results_cellt Tryd.results56 _ _ b4 _ QA (0, 0) _ rfl (setRow_heap _ _ _ _ _ _ HZ12.out) Tryd.underlying71 rfl (by rw [HQZ.out.1]; exact size_rp)) rfl ⟨QA, by rw [HE.out]; rfl, ?_, below_setRow HB12.out (by have := HBS.out; omega) _⟩
        rw [HRE.out]
        obtain ⟨a5, cap5, e5, h5, hy5, hp5⟩ := own_in (HO12.out.rowR HZ12.out (by decide) QA) (by rw [List.length_append, HN.out, List.length_singleton]; omega) (snoc_byte HZY.out hc)
        refine ⟨a5, cap5, none, 0, by rw [HQE.out, ← HN1.out]; exact congrArg (fun v => Rp.cells _ v _) (HN1.out ▸ e5), hy5, h5, fun ad e => ?_, byt_nilR _, Nat.le_refl _, fun ad e => by cases e⟩
        have := hp5 ad e
        exact .inr ⟨by have := HB6.out.size; omega, this.2⟩
    · have hd1 : decide ((c : Int) > 51) = true := by rw [decide_eq_true_eq]; omega
      have HD2 := Lib.hid (HD1.out.trans (if_neg (fun h => h51 h.1)))
      have HE : Hid ((r.doV bk c).1 = 122) := Lib.hid (by rw [HD2.out])
      have HRE : Hid ((r.doV bk c).2 = (r, bk)) := Lib.hid (by rw [HD2.out])
      clear h51
      go_wp2_with (first
        | refine wpList_load_row rfl 71 (.tmp 2) rfl b rfl 71 PA (0, 0) _ HR5.out Tryd.underlying71 rfl (by rw [HPZ.out]; exact size_rp) ?_
        | refine wpList_store_row rfl 71 (.tmp 4) (.tmp 18) rfl b4 PA rfl rfl 71 _ HZ5.out (by rw [HPZ.out]; exact size_rp) (by rw [HZZ.out, HPZ.out]) HPO.out ?_)
      refine bodyPost_ret (v := .tuple #[.agg PA, .int .i64 122]) (results_cellt Tryd.results56 _ _ b4 _ PA (0, 0) _ rfl (setRow_heap _ _ _ _ _ _ HZ5.out) Tryd.underlying71 rfl (by rw [HPZ.out]; exact size_rp)) rfl ⟨PA, by rw [HE.out]; rfl, by rw [HRE.out]; exact (HIN.out.below (below_setRow HB5.out (by have := HBS.out; omega) _)).mono (fun _ h => .inl h), below_setRow HB5.out (by have := HBS.out; omega) _⟩

  · have HE : Hid ((r.doV bk c).1 = 121) := Lib.hid (by rw [HD.out]; rfl)
    have HRE : Hid ((r.doV bk c).2 = (r, bk)) := Lib.hid (by rw [HD.out]; rfl)
    go_wp2_with (first
      | refine wpList_load_row rfl 71 (.tmp 2) rfl b rfl 71 PA (0, 0) _ HR5.out Tryd.underlying71 rfl (by rw [HPZ.out]; exact size_rp) ?_
      | refine wpList_store_row rfl 71 (.tmp 4) (.tmp 8) rfl b4 PA rfl rfl 71 _ HZ5.out (by rw [HPZ.out]; exact size_rp) (by rw [HZZ.out, HPZ.out]) HPO.out ?_)
    refine bodyPost_ret (v := .tuple #[.agg PA, .int .i64 121]) (results_cellt Tryd.results56 _ _ b4 _ PA (0, 0) _ rfl (setRow_heap _ _ _ _ _ _ HZ5.out) Tryd.underlying71 rfl (by rw [HPZ.out]; exact size_rp)) rfl ⟨PA, by rw [HE.out]; rfl, by rw [HRE.out]; exact (HIN.out.below (below_setRow HB5.out (by have := HBS.out; omega) _)).mono (fun _ h => .inl h), below_setRow HB5.out (by have := HBS.out; omega) _⟩
end Go.Proofs.YtginbellakkliaaDoor

/- finesseref12.Undo and Redo over this seat's program. -/
namespace Go.Proofs.YtginbellakkliaaDoor
open Go.RowKit Go.Shelf Go.Sort Go.Maps Go.WideMaps
attribute [local go_sem] Oper.semAt_some

def Rp.undoV (r : Rp) (bk : List Nat) : Nat × Rp × List Nat := match r.cs.getLast? with
  | none => (6, r, bk)
  | some x => (0, { r with cs := r.cs.dropLast }, bk ++ [x])
def Rp.redoV (r : Rp) (bk : List Nat) : Nat × Rp × List Nat := match bk.getLast? with
  | none => (6, r, bk)
  | some x => (0, { r with cs := r.cs ++ [x] }, bk.dropLast)
theorem byt_takeR {W : World} {a : Option Addr} {n k : Nat} {zs : List Nat} (h : Byt W a n zs) (hk : k ≤ n) : Byt W a k (zs.take k) := by
  have hg : ∀ i, i < k → (zs.take k).getD i 0 = zs.getD i 0 := fun i hi => by
    rw [List.getD_eq_getElem?_getD, List.getElem?_take, if_pos hi, List.getD_eq_getElem?_getD]
  refine ⟨by rw [List.length_take, h.length]; omega, by have := h.small; omega, fun i => ?_, ?_⟩
  · rcases Nat.lt_or_ge i k with hi | hi
    · rw [hg i hi]; exact h.byte i
    · rw [List.getD_eq_getElem?_getD, List.getElem?_take, if_neg (by omega)]; exact (by decide : (0 : Nat) < 256)
  · rcases h.cells with h0 | ⟨b, off, ha, hb, hc⟩
    · exact .inl (by omega)
    · exact .inr ⟨b, off, ha, hb, fun i hi => by rw [hg i hi]; exact hc i (by omega)⟩
def UnV (b : Nat) (PA : Array Value) (j base x : Nat) (ys : List Nat) (vs : List Value) (W : World) : Prop := match vs with
  | [] => Row W b 71 PA
  | [s0] => Row W b 71 PA ∧ OwnU W base s0 []
  | [_, s1] => Row W b 71 PA ∧ OwnU W base s1 ys
  | [_, _, s2] => Row W b 71 PA ∧ OwnU W base s2 (ys ++ [x])
  | [_, _, s2, _] => Row W b 71 (PA.setIfInBounds j s2) ∧ OwnU W base s2 (ys ++ [x])
  | _ => False
def UnU (x : Nat) (vs us : List Value) (W : World) : Prop := match us with
  | [] => True
  | [u] => 2 < vs.length ∨ ∃ g, u = .slice (some ⟨g, 0, none⟩) 1 1 ∧ Byt W (some ⟨g, 0, none⟩) 1 [x] ∧ ∀ s, vs.getLast? = some s → s.ownBlock ≠ some g
  | _ => False
def UnS (w : World) (b b4 : Nat) (PA ZA : Array Value) (j x : Nat) (ys : List Nat) (vs us : List Value) (W : World) : Prop :=
  Below w.heap.size w W ∧ Row W b4 71 ZA ∧ UnV b PA j w.heap.size x ys vs W ∧ UnU x vs us W
theorem UnV.alloc {b j base x : Nat} {PA : Array Value} {ys : List Nat} {vs : List Value} {W : World} (h : UnV b PA j base x ys vs W) (o : Obj) : UnV b PA j base x ys vs (W.alloc o) := by
  match vs, h with
  | [], h => exact Row.alloc h o
  | [_], h => exact ⟨h.1.alloc o, Owns.alloc h.2 o⟩
  | [_, _], h => exact ⟨h.1.alloc o, Owns.alloc h.2 o⟩
  | [_, _, _], h => exact ⟨h.1.alloc o, Owns.alloc h.2 o⟩
  | [_, _, _, _], h => exact ⟨h.1.alloc o, Owns.alloc h.2 o⟩
theorem UnV.fresh {b j base x : Nat} {PA : Array Value} {ys : List Nat} {vs : List Value} {W : World} (h : UnV b PA j base x ys vs W) (hx : x < 256) : UnU x vs ([] ++ [.slice (some ⟨W.heap.size, 0, none⟩) 1 1]) (W.alloc (.cells #[.int .u8 (x : Int)] 5)) := by
  have hlt : ∀ (s : Value) (l : List Nat), OwnU W base s l → s.ownBlock ≠ some W.heap.size := fun s l hO e => by
    have := (World.ownsRow.lt hO.2 _ e).2; omega
  rcases Nat.lt_or_ge 2 vs.length with h2 | h2
  · exact .inl h2
  · refine .inr ⟨_, rfl, byt_new1 W x hx, ?_⟩
    match vs, h, h2 with
    | [], _, _ => intro s e; cases e
    | [s0], h, _ => rintro s e; obtain rfl : s0 = s := Option.some.inj e; exact hlt _ _ h.2
    | [_, s1], h, _ => rintro s e; obtain rfl : s1 = s := Option.some.inj e; exact hlt _ _ h.2
theorem UnU.alloc0 {x : Nat} {us : List Value} {W : World} (h : UnU x [] us W) (o : Obj) : UnU x ([] ++ [.slice (some ⟨W.heap.size, 0, none⟩) 0 0]) us (W.alloc o) := by
  match us, h with
  | [], _ => trivial
  | [u], h =>
    rcases h with h | ⟨g, h1, h2, -⟩
    · simp at h
    · have hlt : g < W.heap.size := by
        obtain ⟨b, off, e, hb, -⟩ := h2.at (by decide)
        injection e with e; injection e with e1 e2 e3; rw [e1]; exact hb
      refine .inr ⟨g, h1, h2.below (Nat.le_refl _) ((Below.refl _ _).alloc (Nat.le_refl _) o), fun s e => ?_⟩
      obtain rfl := Option.some.inj e
      intro e2
      have : W.heap.size = g := by simpa [Value.ownBlock] using e2
      omega
theorem UnU.grown {x : Nat} {us : List Value} {W W' : World} {s0 v' : Value} (h : UnU x [s0] us W) (hg : W.grownBy W' s0.ownBlock) (hn : v'.ownBlock = s0.ownBlock ∨ v'.ownBlock = some W.heap.size) : UnU x ([s0] ++ [v']) us W' := by
  match us, h with
  | [], _ => trivial
  | [u], h =>
    rcases h with h | ⟨g, h1, h2, h3⟩
    · simp at h
    · have hlt : g < W.heap.size := by
        obtain ⟨b, off, e, hb, -⟩ := h2.at (by decide)
        injection e with e; injection e with e1 e2 e3; rw [e1]; exact hb
      have hne := h3 s0 rfl
      refine .inr ⟨g, h1, byt_keptR (G := fun q => some q ≠ s0.ownBlock) h2 (Kept.of_grown hg fun q hq => hq) (fun ad e => by obtain rfl := Option.some.inj e; exact fun e2 => hne e2.symm), fun s e => ?_⟩
      obtain rfl : v' = s := Option.some.inj e
      rcases hn with hn | hn
      · rw [hn]; exact hne
      · rw [hn]; intro e2; have := Option.some.inj e2; omega
theorem UnU.two {x : Nat} {s0 s1 u : Value} {W : World} (h : UnU x [s0, s1] [u] W) : ∃ g, u = .slice (some ⟨g, 0, none⟩) 1 1 ∧ Byt W (some ⟨g, 0, none⟩) 1 [x] ∧ s1.ownBlock ≠ some g := by
  rcases h with h | ⟨g, h1, h2, h3⟩
  · simp at h
  · exact ⟨g, h1, h2, h3 s1 rfl⟩
theorem UnU.more {x : Nat} {vs vs' us : List Value} {W W' : World} (h : UnU x vs us W) (hl : 2 < vs'.length) : UnU x vs' us W' := by
  match us, h with
  | [], _ => trivial
  | [_], _ => exact .inl hl
theorem UnS.rows {w W : World} {b b4 j x : Nat} {PA ZA : Array Value} {ys : List Nat} {vs us : List Value} (h : UnS w b b4 PA ZA j x ys vs us W) (hl : vs.length ≤ 3) : Row W b 71 PA := by
  obtain ⟨-, -, h, -⟩ := h
  match vs, h, hl with
  | [], h, _ => exact h
  | [_], h, _ => exact h.1
  | [_, _], h, _ => exact h.1
  | [_, _, _], h, _ => exact h.1
  | [_, _, _, _], _, hl => exact absurd hl (by simp)
set_option maxHeartbeats 4000000 in
set_option maxRecDepth 10000 in
theorem rq_Undo (r : Rp) (hr : r.ok) (bk : List Nat) (PA : Array Value) (G : Nat → Prop) (w : World) (hin : RpIn w r bk PA G) (hbk : bk.length ≤ 50000) :
    Calls Tryd.prog 53 #[.agg PA] w fun e w' => ∃ PA', e = .returned (.tuple #[.agg PA', .int .i64 ((r.undoV bk).1 : Int)]) ∧ RpIn w' (r.undoV bk).2.1 (r.undoV bk).2.2 PA' (More G w w') ∧ Below w.heap.size w w' := by
  have HIN := Lib.hid hin
  obtain ⟨a, cap, a2, cap2, hPA, hz, hcap, hga, hz2, hcap2, hga2⟩ := hin
  have HXX := Lib.hid hz
  have HYY := Lib.hid hz2
  have HGX := Lib.hid hga
  have hcx := hcap
  have HCX := Lib.hid hcx
  have h52 := hr.len
  have hYb : bk.length ≤ 50000 := by omega
  clear hz hcap hga hz2 hcap2 hga2
  have HPZ : Hid (PA.size = 10) := Lib.hid (by rw [hPA]; rfl)
  have HPE := Lib.hid hPA
  have HPO : Hid (PA.all (·.oneCell') = true) := Lib.hid (by rw [hPA]; exact rp_one _ _ _ _ _ _ _)
  have HZZ : Hid (zeroRp.size = 10) := Lib.hid rfl
  obtain ⟨ZA, hZA⟩ : ∃ z, zeroRp = z := ⟨_, rfl⟩
  have HZE := Lib.hid hZA
  rw [hZA] at HZZ
  have HR4 := Lib.hid ((Row.new w 71 PA).alloc (.cells ZA 71))
  have hz0 := Row.new (w.alloc (.cells PA 71)) 71 ZA
  rw [show (w.alloc (.cells PA 71)).heap.size = w.heap.size + 1 by simp] at hz0
  have HZ4 := Lib.hid hz0
  have HB4 := Lib.hid (((Below.refl w.heap.size w).alloc (Nat.le_refl _) (.cells PA 71)).alloc (by simp) (.cells ZA 71))
  clear hPA hz0
  go_enter Tryd.func53, Tryd.ntmps53
  go_upto_region 1 with fail
  show Code.wp _ _ _ _ ((w.alloc (.cells PA 71)).alloc (.cells ZA 71))
  clear hZA
  generalize (w.alloc (.cells PA 71)).alloc (.cells ZA 71) = w1 at *
  obtain ⟨b, hb⟩ : ∃ b, w.heap.size = b := ⟨_, rfl⟩
  obtain ⟨b4, hb4⟩ : ∃ x, w.heap.size + 1 = x := ⟨_, rfl⟩
  have HBS : Hid (w.heap.size = b ∧ b4 = b + 1) := Lib.hid ⟨hb, by omega⟩
  rw [hb] at HR4
  rw [hb4] at HZ4 ⊢
  rw [hb]
  clear hb hb4
  rcases hl : r.cs.getLast? with _ | x
  · have HU : Hid (r.undoV bk = (6, r, bk)) := Lib.hid (by unfold Rp.undoV; rw [hl])
    have hnil : r.cs = [] := List.getLast?_eq_none_iff.1 hl
    have hn0 : r.cs.length = 0 := by rw [hnil]; rfl
    have c0 : w1.cell? ⟨b, 8, none⟩ = some (.slice a 0 cap) := (HR4.out.cell 8).trans ((congrArg (fun A : Array Value => A[8]?) HPE.out).trans (by rw [hn0]; rfl))
    have HE : Hid ((r.undoV bk).1 = 6) := Lib.hid (by rw [HU.out])
    have HRE : Hid ((r.undoV bk).2 = (r, bk)) := Lib.hid (by rw [HU.out])
    clear hl hnil hn0 hcx hYb h52
    go_upto_region 3 with fail
    go_wp2_with (first
      | refine wpList_load_row rfl 71 (.tmp 1) rfl b rfl 71 PA (0, 0) _ HR4.out Tryd.underlying71 rfl (by rw [HPZ.out]; exact size_rp) ?_
      | refine wpList_store_row rfl 71 (.tmp 2) (.tmp 10) rfl b4 PA rfl rfl 71 _ HZ4.out (by rw [HPZ.out]; exact size_rp) (by rw [HZZ.out, HPZ.out]) HPO.out ?_)
    refine bodyPost_ret (v := .tuple #[.agg PA, .int .i64 6]) (results_cellt Tryd.results53 _ _ b4 _ PA (0, 0) _ rfl (setRow_heap _ _ _ _ _ _ HZ4.out) Tryd.underlying71 rfl (by rw [HPZ.out]; exact size_rp)) rfl ⟨PA, by rw [HE.out]; rfl, by rw [HRE.out]; exact (HIN.out.below (below_setRow HB4.out (by have := HBS.out; omega) _)).mono (fun _ h => .inl h), below_setRow HB4.out (by have := HBS.out; omega) _⟩
  · have HU : Hid (r.undoV bk = (0, { r with cs := r.cs.dropLast }, bk ++ [x])) := Lib.hid (by unfold Rp.undoV; rw [hl])
    have HE : Hid ((r.undoV bk).1 = 0) := Lib.hid (by rw [HU.out])
    have HRE : Hid ((r.undoV bk).2 = ({ r with cs := r.cs.dropLast }, bk ++ [x])) := Lib.hid (by rw [HU.out])
    obtain ⟨n, hn⟩ : ∃ n, r.cs.length = n := ⟨_, rfl⟩
    obtain ⟨m, hm⟩ : ∃ n, bk.length = n := ⟨_, rfl⟩
    obtain ⟨k, hk⟩ : ∃ k, n - 1 = k := ⟨_, rfl⟩
    have hpos : 0 < n := by rw [← hn]; exact List.length_pos_iff.2 (fun e => by rw [e] at hl; cases hl)
    have HDL : Hid (r.cs.dropLast = r.cs.take k) := Lib.hid (by rw [List.dropLast_eq_take, hn, hk])
    have hlast : r.cs.getD k 0 = x := by
      rw [List.getLast?_eq_getElem?, hn, hk] at hl
      rw [List.getD_eq_getElem?_getD, hl]; rfl
    have HX6 : Hid (x < 256) := Lib.hid (hlast ▸ HXX.out.byte k)
    have HM := Lib.hid hm
    have HN := Lib.hid hn
    rw [hn] at HXX hcx HCX HPE
    rw [hm] at HYY hYb HPE
    have hn6 : n ≤ 60000 := by have := HN.out; omega
    obtain ⟨bx, off, hax, hbx, hck⟩ := HXX.out.at hpos
    have HBX := Lib.hid hbx
    have HCK : Hid (w.cell? ⟨bx, off + k, none⟩ = some (.int .u8 (x : Int))) := Lib.hid (by rw [← hlast]; exact hck k (by omega))
    subst hax
    have hb0 : ((n : Int) == 0) = false := by rw [beq_eq_false_iff_ne]; omega
    have ek1 : (n : Int) - 1 = (k : Int) := by omega
    have ekw : IntKind.i64.wrap (k : Int) = (k : Int) := by rw [IntKind.wrap_i64]; omega
    have hkI : (k : Int) < (n : Int) := by omega
    have hkc : k ≤ cap := by omega
    have hsl := u8_run ⟨bx, off, none⟩ n cap k hkc
    have c0 : w1.cell? ⟨b, 8, none⟩ = some (.slice (some ⟨bx, off, none⟩) n cap) := (HR4.out.cell 8).trans (congrArg (fun A : Array Value => A[8]?) HPE.out)
    clear hl hn hm hk hlast hck hbx HU
    go_upto_region 4 with fail
    refine wp_region_reliesS (ChF [undef, .pointer (some ⟨b, 9, none⟩), .slice a2 m cap2, undef, .pointer (some ⟨b, 8, none⟩), .slice (some ⟨bx, off, none⟩) n cap, .int .i64 (n : Int), .int .i64 (k : Int), .pointer (some ⟨bx, off + k, none⟩), .int .u8 (x : Int), undef, undef, .pointer (some ⟨b, 9, none⟩), undef] [0, 3, 11, 13] [10] (UnS w b b4 PA ZA 9 x bk)) (by kernel_rfl) (by kernel_rfl) (by kernel_rfl) (by kernel_rfl) (ChF.start ⟨HB4.out.drew, HZ4.out.later (Below.refl _ _).drew, HR4.out.later (Below.refl _ _).drew, trivial⟩) ?obls ?fini
    case obls =>
      refine ⟨?_, ?_, ?_, ?_, ?_, ?_, ?_, ?_, ?_, ?_, ?_, ?_, ?_, ?_, trivial⟩
      · rintro ρ f W ⟨vs, us, hX⟩ hfi hw hcl hf
        have hl := hX.le1 0 0 rfl hfi
        obtain rfl := list0 hl
        obtain ⟨hB, hZ, hR, hU⟩ := hX.st
        refine ok_value (v := .slice (some ⟨W.heap.size, 0, none⟩) 0 0) (w' := W.alloc (.cells #[] 5)) (by simp [execOp, go_sem]) (hX.step1 0 _ rfl (by decide) (by decide) ⟨hB.alloc hB.size _, hZ.alloc _, ⟨hR.alloc _, ownU_made0 W _ hB.size⟩, ?_⟩)
        exact UnU.alloc0 hU _
      · rintro ρ f W ⟨vs, us, hX⟩ hfi hw hcl hf
        have f1 : ρ (.tmp 1) = .pointer (some ⟨b, 0, none⟩) := hf.1 1 (by simp [Op.operands])
        exact ok_value (v := .pointer (some ⟨b, 9, none⟩)) (w' := W) (by simp [execOp, f1, go_sem]) (hX.pure 1 _ (by decide) (by decide) rfl hX.st)
      · rintro ρ f W ⟨vs, us, hX⟩ hfi hw hcl hf
        have f12 : ρ (.tmp 12) = .pointer (some ⟨b, 9, none⟩) := hX.val 1 _ _ (by decide) (by decide) (hf.1 12 (by simp [Op.operands])) rfl
        have hrw : Row W b 71 PA := hX.st.rows (hX.le1 3 13 rfl (by
          rcases h : f 13 with _ | v
          · rfl
          · have := hcl 13 (by rw [h]; rfl) 2 (by decide)
            rw [hfi] at this; cases this))
        have c0 : W.cell? ⟨b, 9, none⟩ = some (.slice a2 m cap2) := (hrw.cell 9).trans (congrArg (fun A : Array Value => A[9]?) HPE.out)
        exact ok_value (v := .slice a2 m cap2) (w' := W) (by simp [execOp, f12, go_sem, c0]) (hX.pure 2 _ (by decide) (by decide) rfl hX.st)
      · rintro ρ f W ⟨vs, us, hX⟩ hfi hw hcl hf
        have g11 := hX.get1 0 0 rfl (hf.1 11 (by simp [Op.operands, Call.operands]))
        have f13 : ρ (.tmp 13) = .slice a2 m cap2 := hX.val 2 _ _ (by decide) (by decide) (hf.1 13 (by simp [Op.operands, Call.operands])) rfl
        have hl := hX.le1 1 3 rfl hfi
        obtain rfl := list1 hl g11
        obtain ⟨hB, hZ, ⟨hR, hO⟩, hU⟩ := hX.st
        refine ok_appR (.tmp 11) (.tmp 13) rfl w.heap.size _ [] bk rfl hO a2 m cap2 f13 (HYY.out.below (Nat.le_refl _) hB) (by rw [List.length_nil]; omega) hB.size fun v' w' ho hg hnew => ?_
        rw [List.nil_append] at ho
        exact hX.step1 3 _ rfl (by decide) (by decide) ⟨hB.grown hg hB.size (fun q hq => (World.ownsRow.lt hO.2 q hq).1), hZ.grownR hg (fun e => own_apartR hO hZ (by decide) e.symm), ⟨hR.grownR hg (fun e => own_apartR hO hR (by decide) e.symm), ho⟩, UnU.grown hU hg hnew⟩
      · rintro ρ f W ⟨vs, us, hX⟩ hfi hw hcl hf
        have f1 : ρ (.tmp 1) = .pointer (some ⟨b, 0, none⟩) := hf.1 1 (by simp [Op.operands])
        exact ok_value (v := .pointer (some ⟨b, 8, none⟩)) (w' := W) (by simp [execOp, f1, go_sem]) (hX.pure 4 _ (by decide) (by decide) rfl hX.st)
      · rintro ρ f W ⟨vs, us, hX⟩ hfi hw hcl hf
        have f15 : ρ (.tmp 15) = .pointer (some ⟨b, 8, none⟩) := hX.val 4 _ _ (by decide) (by decide) (hf.1 15 (by simp [Op.operands])) rfl
        have hrw : Row W b 71 PA := hX.st.rows (hX.le1 3 13 rfl (by
          rcases h : f 13 with _ | v
          · rfl
          · have := hcl 13 (by rw [h]; rfl) 5 (by decide)
            rw [hfi] at this; cases this))
        have c0 : W.cell? ⟨b, 8, none⟩ = some (.slice (some ⟨bx, off, none⟩) n cap) := (hrw.cell 8).trans (congrArg (fun A : Array Value => A[8]?) HPE.out)
        exact ok_value (v := .slice (some ⟨bx, off, none⟩) n cap) (w' := W) (by simp [execOp, f15, go_sem, c0]) (hX.pure 5 _ (by decide) (by decide) rfl hX.st)
      · rintro ρ f W ⟨vs, us, hX⟩ hfi hw hcl hf
        have f4 : ρ (.tmp 4) = .int .i64 (n : Int) := hf.1 4 (by simp [Op.operands])
        exact ok_value (v := .int .i64 (n : Int)) (w' := W) (by simp [execOp, f4]) (hX.pure 6 _ (by decide) (by decide) rfl hX.st)
      · rintro ρ f W ⟨vs, us, hX⟩ hfi hw hcl hf
        have f17 : ρ (.tmp 17) = .int .i64 (n : Int) := hX.val 6 _ _ (by decide) (by decide) (hf.1 17 (by simp [Op.operands])) rfl
        exact ok_value (v := .int .i64 (k : Int)) (w' := W) (by simp [execOp, f17, hf.2.1, go_sem, ek1, ekw]) (hX.pure 7 _ (by decide) (by decide) rfl hX.st)
      · rintro ρ f W ⟨vs, us, hX⟩ hfi hw hcl hf
        have f16 : ρ (.tmp 16) = .slice (some ⟨bx, off, none⟩) n cap := hX.val 5 _ _ (by decide) (by decide) (hf.1 16 (by simp [Op.operands])) rfl
        have f18 : ρ (.tmp 18) = .int .i64 (k : Int) := hX.val 7 _ _ (by decide) (by decide) (hf.1 18 (by simp [Op.operands])) rfl
        exact ok_value (v := .pointer (some ⟨bx, off + k, none⟩)) (w' := W) (by simp [execOp, f16, f18, go_sem, hkI]) (hX.pure 8 _ (by decide) (by decide) rfl hX.st)
      · rintro ρ f W ⟨vs, us, hX⟩ hfi hw hcl hf
        have f19 : ρ (.tmp 19) = .pointer (some ⟨bx, off + k, none⟩) := hX.val 8 _ _ (by decide) (by decide) (hf.1 19 (by simp [Op.operands])) rfl
        have ck : W.cell? ⟨bx, off + k, none⟩ = some (.int .u8 (x : Int)) := (hX.st.1.cell (p := ⟨bx, off + k, none⟩) HBX.out).trans HCK.out
        exact ok_value (v := .int .u8 (x : Int)) (w' := W) (by simp [execOp, f19, go_sem, ck]) (hX.pure 9 _ (by decide) (by decide) rfl hX.st)
      · rintro ρ f W ⟨vs, us, hX⟩ hfi hw hcl hf
        have f20 : ρ (.tmp 20) = .int .u8 (x : Int) := hX.val 9 _ _ (by decide) (by decide) (hf.1 20 (by simp [Op.operands])) rfl
        have hl := hX.le2 0 10 rfl hfi
        obtain rfl := list0 hl
        obtain ⟨hB, hZ, hR, hU⟩ := hX.st
        refine ok_value (v := .slice (some ⟨W.heap.size, 0, none⟩) 1 1) (w' := W.alloc (.cells #[.int .u8 (x : Int)] 5)) (by simp [execOp, f20, go_sem]) (hX.step2 10 _ rfl (by decide) (by decide) ⟨hB.alloc hB.size _, hZ.alloc _, UnV.alloc hR _, ?_⟩)
        exact UnV.fresh hR HX6.out
      · rintro ρ f W ⟨vs, us, hX⟩ hfi hw hcl hf
        have g14 := hX.get1 1 3 rfl (hf.1 14 (by simp [Op.operands, Call.operands]))
        have g21 := hX.get2 0 10 rfl (hf.1 21 (by simp [Op.operands, Call.operands]))
        have hl := hX.le1 2 11 rfl hfi
        obtain ⟨s0, rfl⟩ := list2 hl g14
        obtain rfl := list1 hX.l2 g21
        obtain ⟨hB, hZ, ⟨hR, hO⟩, hU⟩ := hX.st
        obtain ⟨g, hge, hgy, hgn⟩ := UnU.two hU
        refine ok_appR (.tmp 14) (.tmp 21) rfl w.heap.size _ bk [x] rfl hO (some ⟨g, 0, none⟩) 1 1 hge hgy (by rw [HM.out]; omega) hB.size fun v' w' ho hg hnew => ?_
        exact hX.step1 11 _ rfl (by decide) (by decide) ⟨hB.grown hg hB.size (fun q hq => (World.ownsRow.lt hO.2 q hq).1), hZ.grownR hg (fun e => own_apartR hO hZ (by decide) e.symm), ⟨hR.grownR hg (fun e => own_apartR hO hR (by decide) e.symm), ho⟩, .inl (by simp)⟩
      · rintro ρ f W ⟨vs, us, hX⟩ hfi hw hcl hf
        have f1 : ρ (.tmp 1) = .pointer (some ⟨b, 0, none⟩) := hf.1 1 (by simp [Op.operands])
        exact ok_value (v := .pointer (some ⟨b, 9, none⟩)) (w' := W) (by simp [execOp, f1, go_sem]) (hX.pure 12 _ (by decide) (by decide) rfl hX.st)
      · rintro ρ f W ⟨vs, us, hX⟩ hfi hw hcl hf
        have f23 : ρ (.tmp 23) = .pointer (some ⟨b, 9, none⟩) := hX.val 12 _ _ (by decide) (by decide) (hf.1 23 (by simp [Op.operands])) rfl
        have g22 := hX.get1 2 11 rfl (hf.1 22 (by simp [Op.operands]))
        have hl := hX.le1 3 13 rfl hfi
        obtain ⟨s0, s1, rfl⟩ := list3 hl g22
        obtain ⟨hB, hZ, ⟨hR, hO⟩, hU⟩ := hX.st
        have hc := hR.cell 9
        have hfz := hR.frozen 9
        rw [HPE.out] at hc
        obtain ⟨a3, c3, hv3, -⟩ := hO.slice
        refine ok_skip (w' := W.setCell ⟨b, 9, none⟩ (ρ (.tmp 22))) (by rw [hv3]; simp [execOp, f23, hv3, hc, hfz, go_sem]) (hX.step1 13 _ rfl (by decide) (by decide) ⟨hB.setCell (p := ⟨b, 9, none⟩) (by have := HBS.out; show w.heap.size ≤ b; omega) _, hZ.other (by have := HBS.out; omega), ⟨hR.set 9 _, hO.cellR hR (by decide) 9 _⟩, UnU.more hU (by simp)⟩)
    case fini =>
      rintro us w5 hlen ⟨vs, us', hX⟩
      have hl0 : us.length = 14 := hlen
      match us, hl0, hX with
      | [u0, u1, u2, u3, u4, u5, u6, u7, u8, u9, u10, u11, u12, u13], _, hX =>
        obtain ⟨s0, s1, s2, rfl⟩ := list4 hX.l1 (hX.get1 3 13 rfl (v := u13) rfl)
        obtain ⟨hB5, hZ5, ⟨hR5, hO5⟩, -⟩ := hX.st
        obtain ⟨y4, cap4, hv4, hc4, -, -⟩ := own_in hO5 (by rw [List.length_append, HM.out, List.length_singleton]; omega) (snoc_byte HYY.out HX6.out)
        obtain ⟨n1, hn1⟩ : ∃ z, (bk ++ [x]).length = z := ⟨_, rfl⟩
        rw [hn1] at hv4 hc4
        subst hv4
        have HO5 := Lib.hid hO5
        have HR5 := Lib.hid hR5
        have HZ5 := Lib.hid hZ5
        have HB5 := Lib.hid hB5
        have c5 : w5.cell? ⟨b, 8, none⟩ = some (.slice (some ⟨bx, off, none⟩) n cap) := (hR5.cell 8).trans (by rw [HPE.out]; rfl)
        have f5 := hR5.frozen 8
        clear hX hB5 hZ5 hR5 hO5 hn1 c0
        simp only [putAll, List.zip_cons_cons, List.zip_nil_right, List.foldl_cons, List.foldl_nil]
        simp only [Act.put, List.setIfInBounds_toArray, List.set_cons_succ, List.set_cons_zero]
        go_upto_region 6 with fail
        show Code.wp _ _ _ _ (w5.setCell ⟨b, 8, none⟩ (.slice (some ⟨bx, off, none⟩) k cap))
        have HO6 := Lib.hid (HO5.out.cellR HR5.out (by decide) 8 (.slice (some ⟨bx, off, none⟩) k cap))
        have HR6 := Lib.hid (HR5.out.set 8 (.slice (some ⟨bx, off, none⟩) k cap))
        have HZ6 := Lib.hid (HZ5.out.other (B' := b) (i := 8) (v := .slice (some ⟨bx, off, none⟩) k cap) (by have := HBS.out; omega))
        have HB6 := Lib.hid (HB5.out.setCell (p := ⟨b, 8, none⟩) (by have := HBS.out; show w.heap.size ≤ b; omega) (.slice (some ⟨bx, off, none⟩) k cap))
        have HQE : Hid ((PA.setIfInBounds 9 (.slice y4 n1 cap4)).setIfInBounds 8 (.slice (some ⟨bx, off, none⟩) k cap) = ({ r with cs := r.cs.dropLast } : Rp).cells (.slice (some ⟨bx, off, none⟩) k cap) (.slice y4 n1 cap4)) := Lib.hid (by rw [HPE.out]; rfl)
        generalize w5.setCell ⟨b, 8, none⟩ (.slice (some ⟨bx, off, none⟩) k cap) = w6 at *
        obtain ⟨QA, hQA⟩ : ∃ A, (PA.setIfInBounds 9 (.slice y4 n1 cap4)).setIfInBounds 8 (.slice (some ⟨bx, off, none⟩) k cap) = A := ⟨_, rfl⟩
        rw [hQA] at HR6 HQE
        have HQZ : Hid (QA.size = 10 ∧ QA.all (·.oneCell') = true) := Lib.hid (by rw [HQE.out]; exact ⟨rfl, rp_one _ _ _ _ _ _ _⟩)
        clear hQA c5 f5
        go_wp2_with (first
          | refine wpList_load_row rfl 71 (.tmp 1) rfl b rfl 71 QA (0, 0) _ HR6.out Tryd.underlying71 rfl (by rw [HQZ.out.1]; exact size_rp) ?_
          | refine wpList_store_row rfl 71 (.tmp 2) (.tmp 30) rfl b4 QA rfl rfl 71 _ HZ6.out (by rw [HQZ.out.1]; exact size_rp) (by rw [HZZ.out, HQZ.out.1]) HQZ.out.2 ?_)
        refine bodyPost_ret (v := .tuple #[.agg QA, .int .i64 0]) (results_cellt Tryd.results53 _ _ b4 _ QA (0, 0) _ rfl (setRow_heap _ _ _ _ _ _ HZ6.out) Tryd.underlying71 rfl (by rw [HQZ.out.1]; exact size_rp)) rfl ⟨QA, by rw [HE.out]; rfl, ?_, below_setRow HB6.out (by have := HBS.out; omega) _⟩
        rw [HRE.out]
        have hBF := below_setRow HB6.out (g := b4) (by have := HBS.out; omega) QA
        obtain ⟨a5, cap5, e5, h5, hy5, hp5⟩ := own_in (HO6.out.rowR HZ6.out (by decide) QA) (by rw [List.length_append, HM.out, List.length_singleton]; omega) (snoc_byte HYY.out HX6.out)
        have hyX := byt_takeR (HXX.out.below (Nat.le_refl _) hBF) (k := k) (by omega)
        rw [← HDL.out] at hyX
        have hlk : r.cs.dropLast.length = k := hyX.length
        refine ⟨some ⟨bx, off, none⟩, cap, a5, cap5, ?_, by rw [hlk]; exact hyX, by rw [hlk]; omega, (HGX.out).mono fun _ h => .inl h, hy5, h5, fun ad e => .inr (hp5 ad e)⟩
        rw [HQE.out, hlk, ← e5]
set_option maxHeartbeats 4000000 in
set_option maxRecDepth 10000 in
theorem rq_Redo (r : Rp) (hr : r.ok) (bk : List Nat) (PA : Array Value) (G : Nat → Prop) (w : World) (hin : RpIn w r bk PA G) (hbk : bk.length ≤ 50000) :
    Calls Tryd.prog 54 #[.agg PA] w fun e w' => ∃ PA', e = .returned (.tuple #[.agg PA', .int .i64 ((r.redoV bk).1 : Int)]) ∧ RpIn w' (r.redoV bk).2.1 (r.redoV bk).2.2 PA' (More G w w') ∧ Below w.heap.size w w' := by
  have HIN := Lib.hid hin
  obtain ⟨a, cap, a2, cap2, hPA, hz, hcap, hga, hz2, hcap2, hga2⟩ := hin
  have HXX := Lib.hid hz2
  have HYY := Lib.hid hz
  have HGX := Lib.hid hga2
  have hcx := hcap2
  have HCX := Lib.hid hcx
  have h52 := hr.len
  have hYb : r.cs.length ≤ 50000 := by omega
  clear hz hcap hga hz2 hcap2 hga2
  have HPZ : Hid (PA.size = 10) := Lib.hid (by rw [hPA]; rfl)
  have HPE := Lib.hid hPA
  have HPO : Hid (PA.all (·.oneCell') = true) := Lib.hid (by rw [hPA]; exact rp_one _ _ _ _ _ _ _)
  have HZZ : Hid (zeroRp.size = 10) := Lib.hid rfl
  obtain ⟨ZA, hZA⟩ : ∃ z, zeroRp = z := ⟨_, rfl⟩
  have HZE := Lib.hid hZA
  rw [hZA] at HZZ
  have HR4 := Lib.hid ((Row.new w 71 PA).alloc (.cells ZA 71))
  have hz0 := Row.new (w.alloc (.cells PA 71)) 71 ZA
  rw [show (w.alloc (.cells PA 71)).heap.size = w.heap.size + 1 by simp] at hz0
  have HZ4 := Lib.hid hz0
  have HB4 := Lib.hid (((Below.refl w.heap.size w).alloc (Nat.le_refl _) (.cells PA 71)).alloc (by simp) (.cells ZA 71))
  clear hPA hz0
  go_enter Tryd.func54, Tryd.ntmps54
  go_upto_region 1 with fail
  show Code.wp _ _ _ _ ((w.alloc (.cells PA 71)).alloc (.cells ZA 71))
  clear hZA
  generalize (w.alloc (.cells PA 71)).alloc (.cells ZA 71) = w1 at *
  obtain ⟨b, hb⟩ : ∃ b, w.heap.size = b := ⟨_, rfl⟩
  obtain ⟨b4, hb4⟩ : ∃ x, w.heap.size + 1 = x := ⟨_, rfl⟩
  have HBS : Hid (w.heap.size = b ∧ b4 = b + 1) := Lib.hid ⟨hb, by omega⟩
  rw [hb] at HR4
  rw [hb4] at HZ4 ⊢
  rw [hb]
  clear hb hb4
  rcases hl : bk.getLast? with _ | x
  · have HU : Hid (r.redoV bk = (6, r, bk)) := Lib.hid (by unfold Rp.redoV; rw [hl])
    have hnil : bk = [] := List.getLast?_eq_none_iff.1 hl
    have hn0 : bk.length = 0 := by rw [hnil]; rfl
    have c0 : w1.cell? ⟨b, 9, none⟩ = some (.slice a2 0 cap2) := (HR4.out.cell 9).trans ((congrArg (fun A : Array Value => A[9]?) HPE.out).trans (by rw [hn0]; rfl))
    have HE : Hid ((r.redoV bk).1 = 6) := Lib.hid (by rw [HU.out])
    have HRE : Hid ((r.redoV bk).2 = (r, bk)) := Lib.hid (by rw [HU.out])
    clear hl hnil hn0 hcx hYb h52
    go_upto_region 3 with fail
    go_wp2_with (first
      | refine wpList_load_row rfl 71 (.tmp 1) rfl b rfl 71 PA (0, 0) _ HR4.out Tryd.underlying71 rfl (by rw [HPZ.out]; exact size_rp) ?_
      | refine wpList_store_row rfl 71 (.tmp 2) (.tmp 10) rfl b4 PA rfl rfl 71 _ HZ4.out (by rw [HPZ.out]; exact size_rp) (by rw [HZZ.out, HPZ.out]) HPO.out ?_)
    refine bodyPost_ret (v := .tuple #[.agg PA, .int .i64 6]) (results_cellt Tryd.results54 _ _ b4 _ PA (0, 0) _ rfl (setRow_heap _ _ _ _ _ _ HZ4.out) Tryd.underlying71 rfl (by rw [HPZ.out]; exact size_rp)) rfl ⟨PA, by rw [HE.out]; rfl, by rw [HRE.out]; exact (HIN.out.below (below_setRow HB4.out (by have := HBS.out; omega) _)).mono (fun _ h => .inl h), below_setRow HB4.out (by have := HBS.out; omega) _⟩
  · have HU : Hid (r.redoV bk = (0, { r with cs := r.cs ++ [x] }, bk.dropLast)) := Lib.hid (by unfold Rp.redoV; rw [hl])
    have HE : Hid ((r.redoV bk).1 = 0) := Lib.hid (by rw [HU.out])
    have HRE : Hid ((r.redoV bk).2 = ({ r with cs := r.cs ++ [x] }, bk.dropLast)) := Lib.hid (by rw [HU.out])
    obtain ⟨n, hn⟩ : ∃ n, bk.length = n := ⟨_, rfl⟩
    obtain ⟨m, hm⟩ : ∃ n, r.cs.length = n := ⟨_, rfl⟩
    obtain ⟨k, hk⟩ : ∃ k, n - 1 = k := ⟨_, rfl⟩
    have hpos : 0 < n := by rw [← hn]; exact List.length_pos_iff.2 (fun e => by rw [e] at hl; cases hl)
    have HDL : Hid (bk.dropLast = bk.take k) := Lib.hid (by rw [List.dropLast_eq_take, hn, hk])
    have hlast : bk.getD k 0 = x := by
      rw [List.getLast?_eq_getElem?, hn, hk] at hl
      rw [List.getD_eq_getElem?_getD, hl]; rfl
    have HX6 : Hid (x < 256) := Lib.hid (hlast ▸ HXX.out.byte k)
    have HM := Lib.hid hm
    have HN := Lib.hid hn
    rw [hn] at HXX hcx HCX HPE
    rw [hm] at HYY hYb HPE
    have hn6 : n ≤ 60000 := by have := HN.out; omega
    obtain ⟨bx, off, hax, hbx, hck⟩ := HXX.out.at hpos
    have HBX := Lib.hid hbx
    have HCK : Hid (w.cell? ⟨bx, off + k, none⟩ = some (.int .u8 (x : Int))) := Lib.hid (by rw [← hlast]; exact hck k (by omega))
    subst hax
    have hb0 : ((n : Int) == 0) = false := by rw [beq_eq_false_iff_ne]; omega
    have ek1 : (n : Int) - 1 = (k : Int) := by omega
    have ekw : IntKind.i64.wrap (k : Int) = (k : Int) := by rw [IntKind.wrap_i64]; omega
    have hkI : (k : Int) < (n : Int) := by omega
    have hkc : k ≤ cap2 := by omega
    have hsl := u8_run ⟨bx, off, none⟩ n cap2 k hkc
    have c0 : w1.cell? ⟨b, 9, none⟩ = some (.slice (some ⟨bx, off, none⟩) n cap2) := (HR4.out.cell 9).trans (congrArg (fun A : Array Value => A[9]?) HPE.out)
    clear hl hn hm hk hlast hck hbx HU
    go_upto_region 4 with fail
    refine wp_region_reliesS (ChF [undef, .pointer (some ⟨b, 8, none⟩), .slice a m cap, undef, .pointer (some ⟨b, 9, none⟩), .slice (some ⟨bx, off, none⟩) n cap2, .int .i64 (n : Int), .int .i64 (k : Int), .pointer (some ⟨bx, off + k, none⟩), .int .u8 (x : Int), undef, undef, .pointer (some ⟨b, 8, none⟩), undef] [0, 3, 11, 13] [10] (UnS w b b4 PA ZA 8 x r.cs)) (by kernel_rfl) (by kernel_rfl) (by kernel_rfl) (by kernel_rfl) (ChF.start ⟨HB4.out.drew, HZ4.out.later (Below.refl _ _).drew, HR4.out.later (Below.refl _ _).drew, trivial⟩) ?obls ?fini
    case obls =>
      refine ⟨?_, ?_, ?_, ?_, ?_, ?_, ?_, ?_, ?_, ?_, ?_, ?_, ?_, ?_, trivial⟩
      · rintro ρ f W ⟨vs, us, hX⟩ hfi hw hcl hf
        have hl := hX.le1 0 0 rfl hfi
        obtain rfl := list0 hl
        obtain ⟨hB, hZ, hR, hU⟩ := hX.st
        refine ok_value (v := .slice (some ⟨W.heap.size, 0, none⟩) 0 0) (w' := W.alloc (.cells #[] 5)) (by simp [execOp, go_sem]) (hX.step1 0 _ rfl (by decide) (by decide) ⟨hB.alloc hB.size _, hZ.alloc _, ⟨hR.alloc _, ownU_made0 W _ hB.size⟩, ?_⟩)
        exact UnU.alloc0 hU _
      · rintro ρ f W ⟨vs, us, hX⟩ hfi hw hcl hf
        have f1 : ρ (.tmp 1) = .pointer (some ⟨b, 0, none⟩) := hf.1 1 (by simp [Op.operands])
        exact ok_value (v := .pointer (some ⟨b, 8, none⟩)) (w' := W) (by simp [execOp, f1, go_sem]) (hX.pure 1 _ (by decide) (by decide) rfl hX.st)
      · rintro ρ f W ⟨vs, us, hX⟩ hfi hw hcl hf
        have f12 : ρ (.tmp 12) = .pointer (some ⟨b, 8, none⟩) := hX.val 1 _ _ (by decide) (by decide) (hf.1 12 (by simp [Op.operands])) rfl
        have hrw : Row W b 71 PA := hX.st.rows (hX.le1 3 13 rfl (by
          rcases h : f 13 with _ | v
          · rfl
          · have := hcl 13 (by rw [h]; rfl) 2 (by decide)
            rw [hfi] at this; cases this))
        have c0 : W.cell? ⟨b, 8, none⟩ = some (.slice a m cap) := (hrw.cell 8).trans (congrArg (fun A : Array Value => A[8]?) HPE.out)
        exact ok_value (v := .slice a m cap) (w' := W) (by simp [execOp, f12, go_sem, c0]) (hX.pure 2 _ (by decide) (by decide) rfl hX.st)
      · rintro ρ f W ⟨vs, us, hX⟩ hfi hw hcl hf
        have g11 := hX.get1 0 0 rfl (hf.1 11 (by simp [Op.operands, Call.operands]))
        have f13 : ρ (.tmp 13) = .slice a m cap := hX.val 2 _ _ (by decide) (by decide) (hf.1 13 (by simp [Op.operands, Call.operands])) rfl
        have hl := hX.le1 1 3 rfl hfi
        obtain rfl := list1 hl g11
        obtain ⟨hB, hZ, ⟨hR, hO⟩, hU⟩ := hX.st
        refine ok_appR (.tmp 11) (.tmp 13) rfl w.heap.size _ [] r.cs rfl hO a m cap f13 (HYY.out.below (Nat.le_refl _) hB) (by rw [List.length_nil]; omega) hB.size fun v' w' ho hg hnew => ?_
        rw [List.nil_append] at ho
        exact hX.step1 3 _ rfl (by decide) (by decide) ⟨hB.grown hg hB.size (fun q hq => (World.ownsRow.lt hO.2 q hq).1), hZ.grownR hg (fun e => own_apartR hO hZ (by decide) e.symm), ⟨hR.grownR hg (fun e => own_apartR hO hR (by decide) e.symm), ho⟩, UnU.grown hU hg hnew⟩
      · rintro ρ f W ⟨vs, us, hX⟩ hfi hw hcl hf
        have f1 : ρ (.tmp 1) = .pointer (some ⟨b, 0, none⟩) := hf.1 1 (by simp [Op.operands])
        exact ok_value (v := .pointer (some ⟨b, 9, none⟩)) (w' := W) (by simp [execOp, f1, go_sem]) (hX.pure 4 _ (by decide) (by decide) rfl hX.st)
      · rintro ρ f W ⟨vs, us, hX⟩ hfi hw hcl hf
        have f15 : ρ (.tmp 15) = .pointer (some ⟨b, 9, none⟩) := hX.val 4 _ _ (by decide) (by decide) (hf.1 15 (by simp [Op.operands])) rfl
        have hrw : Row W b 71 PA := hX.st.rows (hX.le1 3 13 rfl (by
          rcases h : f 13 with _ | v
          · rfl
          · have := hcl 13 (by rw [h]; rfl) 5 (by decide)
            rw [hfi] at this; cases this))
        have c0 : W.cell? ⟨b, 9, none⟩ = some (.slice (some ⟨bx, off, none⟩) n cap2) := (hrw.cell 9).trans (congrArg (fun A : Array Value => A[9]?) HPE.out)
        exact ok_value (v := .slice (some ⟨bx, off, none⟩) n cap2) (w' := W) (by simp [execOp, f15, go_sem, c0]) (hX.pure 5 _ (by decide) (by decide) rfl hX.st)
      · rintro ρ f W ⟨vs, us, hX⟩ hfi hw hcl hf
        have f4 : ρ (.tmp 4) = .int .i64 (n : Int) := hf.1 4 (by simp [Op.operands])
        exact ok_value (v := .int .i64 (n : Int)) (w' := W) (by simp [execOp, f4]) (hX.pure 6 _ (by decide) (by decide) rfl hX.st)
      · rintro ρ f W ⟨vs, us, hX⟩ hfi hw hcl hf
        have f17 : ρ (.tmp 17) = .int .i64 (n : Int) := hX.val 6 _ _ (by decide) (by decide) (hf.1 17 (by simp [Op.operands])) rfl
        exact ok_value (v := .int .i64 (k : Int)) (w' := W) (by simp [execOp, f17, hf.2.1, go_sem, ek1, ekw]) (hX.pure 7 _ (by decide) (by decide) rfl hX.st)
      · rintro ρ f W ⟨vs, us, hX⟩ hfi hw hcl hf
        have f16 : ρ (.tmp 16) = .slice (some ⟨bx, off, none⟩) n cap2 := hX.val 5 _ _ (by decide) (by decide) (hf.1 16 (by simp [Op.operands])) rfl
        have f18 : ρ (.tmp 18) = .int .i64 (k : Int) := hX.val 7 _ _ (by decide) (by decide) (hf.1 18 (by simp [Op.operands])) rfl
        exact ok_value (v := .pointer (some ⟨bx, off + k, none⟩)) (w' := W) (by simp [execOp, f16, f18, go_sem, hkI]) (hX.pure 8 _ (by decide) (by decide) rfl hX.st)
      · rintro ρ f W ⟨vs, us, hX⟩ hfi hw hcl hf
        have f19 : ρ (.tmp 19) = .pointer (some ⟨bx, off + k, none⟩) := hX.val 8 _ _ (by decide) (by decide) (hf.1 19 (by simp [Op.operands])) rfl
        have ck : W.cell? ⟨bx, off + k, none⟩ = some (.int .u8 (x : Int)) := (hX.st.1.cell (p := ⟨bx, off + k, none⟩) HBX.out).trans HCK.out
        exact ok_value (v := .int .u8 (x : Int)) (w' := W) (by simp [execOp, f19, go_sem, ck]) (hX.pure 9 _ (by decide) (by decide) rfl hX.st)
      · rintro ρ f W ⟨vs, us, hX⟩ hfi hw hcl hf
        have f20 : ρ (.tmp 20) = .int .u8 (x : Int) := hX.val 9 _ _ (by decide) (by decide) (hf.1 20 (by simp [Op.operands])) rfl
        have hl := hX.le2 0 10 rfl hfi
        obtain rfl := list0 hl
        obtain ⟨hB, hZ, hR, hU⟩ := hX.st
        refine ok_value (v := .slice (some ⟨W.heap.size, 0, none⟩) 1 1) (w' := W.alloc (.cells #[.int .u8 (x : Int)] 5)) (by simp [execOp, f20, go_sem]) (hX.step2 10 _ rfl (by decide) (by decide) ⟨hB.alloc hB.size _, hZ.alloc _, UnV.alloc hR _, ?_⟩)
        exact UnV.fresh hR HX6.out
      · rintro ρ f W ⟨vs, us, hX⟩ hfi hw hcl hf
        have g14 := hX.get1 1 3 rfl (hf.1 14 (by simp [Op.operands, Call.operands]))
        have g21 := hX.get2 0 10 rfl (hf.1 21 (by simp [Op.operands, Call.operands]))
        have hl := hX.le1 2 11 rfl hfi
        obtain ⟨s0, rfl⟩ := list2 hl g14
        obtain rfl := list1 hX.l2 g21
        obtain ⟨hB, hZ, ⟨hR, hO⟩, hU⟩ := hX.st
        obtain ⟨g, hge, hgy, hgn⟩ := UnU.two hU
        refine ok_appR (.tmp 14) (.tmp 21) rfl w.heap.size _ r.cs [x] rfl hO (some ⟨g, 0, none⟩) 1 1 hge hgy (by rw [HM.out]; omega) hB.size fun v' w' ho hg hnew => ?_
        exact hX.step1 11 _ rfl (by decide) (by decide) ⟨hB.grown hg hB.size (fun q hq => (World.ownsRow.lt hO.2 q hq).1), hZ.grownR hg (fun e => own_apartR hO hZ (by decide) e.symm), ⟨hR.grownR hg (fun e => own_apartR hO hR (by decide) e.symm), ho⟩, .inl (by simp)⟩
      · rintro ρ f W ⟨vs, us, hX⟩ hfi hw hcl hf
        have f1 : ρ (.tmp 1) = .pointer (some ⟨b, 0, none⟩) := hf.1 1 (by simp [Op.operands])
        exact ok_value (v := .pointer (some ⟨b, 8, none⟩)) (w' := W) (by simp [execOp, f1, go_sem]) (hX.pure 12 _ (by decide) (by decide) rfl hX.st)
      · rintro ρ f W ⟨vs, us, hX⟩ hfi hw hcl hf
        have f23 : ρ (.tmp 23) = .pointer (some ⟨b, 8, none⟩) := hX.val 12 _ _ (by decide) (by decide) (hf.1 23 (by simp [Op.operands])) rfl
        have g22 := hX.get1 2 11 rfl (hf.1 22 (by simp [Op.operands]))
        have hl := hX.le1 3 13 rfl hfi
        obtain ⟨s0, s1, rfl⟩ := list3 hl g22
        obtain ⟨hB, hZ, ⟨hR, hO⟩, hU⟩ := hX.st
        have hc := hR.cell 8
        have hfz := hR.frozen 8
        rw [HPE.out] at hc
        obtain ⟨a3, c3, hv3, -⟩ := hO.slice
        refine ok_skip (w' := W.setCell ⟨b, 8, none⟩ (ρ (.tmp 22))) (by rw [hv3]; simp [execOp, f23, hv3, hc, hfz, go_sem]) (hX.step1 13 _ rfl (by decide) (by decide) ⟨hB.setCell (p := ⟨b, 8, none⟩) (by have := HBS.out; show w.heap.size ≤ b; omega) _, hZ.other (by have := HBS.out; omega), ⟨hR.set 8 _, hO.cellR hR (by decide) 8 _⟩, UnU.more hU (by simp)⟩)
    case fini =>
      rintro us w5 hlen ⟨vs, us', hX⟩
      have hl0 : us.length = 14 := hlen
      match us, hl0, hX with
      | [u0, u1, u2, u3, u4, u5, u6, u7, u8, u9, u10, u11, u12, u13], _, hX =>
        obtain ⟨s0, s1, s2, rfl⟩ := list4 hX.l1 (hX.get1 3 13 rfl (v := u13) rfl)
        obtain ⟨hB5, hZ5, ⟨hR5, hO5⟩, -⟩ := hX.st
        obtain ⟨y4, cap4, hv4, hc4, -, -⟩ := own_in hO5 (by rw [List.length_append, HM.out, List.length_singleton]; omega) (snoc_byte HYY.out HX6.out)
        obtain ⟨n1, hn1⟩ : ∃ z, (r.cs ++ [x]).length = z := ⟨_, rfl⟩
        rw [hn1] at hv4 hc4
        subst hv4
        have HO5 := Lib.hid hO5
        have HR5 := Lib.hid hR5
        have HZ5 := Lib.hid hZ5
        have HB5 := Lib.hid hB5
        have c5 : w5.cell? ⟨b, 9, none⟩ = some (.slice (some ⟨bx, off, none⟩) n cap2) := (hR5.cell 9).trans (by rw [HPE.out]; rfl)
        have f5 := hR5.frozen 9
        clear hX hB5 hZ5 hR5 hO5 hn1 c0
        simp only [putAll, List.zip_cons_cons, List.zip_nil_right, List.foldl_cons, List.foldl_nil]
        simp only [Act.put, List.setIfInBounds_toArray, List.set_cons_succ, List.set_cons_zero]
        go_upto_region 6 with fail
        show Code.wp _ _ _ _ (w5.setCell ⟨b, 9, none⟩ (.slice (some ⟨bx, off, none⟩) k cap2))
        have HO6 := Lib.hid (HO5.out.cellR HR5.out (by decide) 9 (.slice (some ⟨bx, off, none⟩) k cap2))
        have HR6 := Lib.hid (HR5.out.set 9 (.slice (some ⟨bx, off, none⟩) k cap2))
        have HZ6 := Lib.hid (HZ5.out.other (B' := b) (i := 9) (v := .slice (some ⟨bx, off, none⟩) k cap2) (by have := HBS.out; omega))
        have HB6 := Lib.hid (HB5.out.setCell (p := ⟨b, 9, none⟩) (by have := HBS.out; show w.heap.size ≤ b; omega) (.slice (some ⟨bx, off, none⟩) k cap2))
        have HQE : Hid ((PA.setIfInBounds 8 (.slice y4 n1 cap4)).setIfInBounds 9 (.slice (some ⟨bx, off, none⟩) k cap2) = ({ r with cs := r.cs ++ [x] } : Rp).cells (.slice y4 n1 cap4) (.slice (some ⟨bx, off, none⟩) k cap2)) := Lib.hid (by rw [HPE.out]; rfl)
        generalize w5.setCell ⟨b, 9, none⟩ (.slice (some ⟨bx, off, none⟩) k cap2) = w6 at *
        obtain ⟨QA, hQA⟩ : ∃ A, (PA.setIfInBounds 8 (.slice y4 n1 cap4)).setIfInBounds 9 (.slice (some ⟨bx, off, none⟩) k cap2) = A := ⟨_, rfl⟩
        rw [hQA] at HR6 HQE
        have HQZ : Hid (QA.size = 10 ∧ QA.all (·.oneCell') = true) := Lib.hid (by rw [HQE.out]; exact ⟨rfl, rp_one _ _ _ _ _ _ _⟩)
        clear hQA c5 f5
        go_wp2_with (first
          | refine wpList_load_row rfl 71 (.tmp 1) rfl b rfl 71 QA (0, 0) _ HR6.out Tryd.underlying71 rfl (by rw [HQZ.out.1]; exact size_rp) ?_
          | refine wpList_store_row rfl 71 (.tmp 2) (.tmp 30) rfl b4 QA rfl rfl 71 _ HZ6.out (by rw [HQZ.out.1]; exact size_rp) (by rw [HZZ.out, HQZ.out.1]) HQZ.out.2 ?_)
        refine bodyPost_ret (v := .tuple #[.agg QA, .int .i64 0]) (results_cellt Tryd.results54 _ _ b4 _ QA (0, 0) _ rfl (setRow_heap _ _ _ _ _ _ HZ6.out) Tryd.underlying71 rfl (by rw [HQZ.out.1]; exact size_rp)) rfl ⟨QA, by rw [HE.out]; rfl, ?_, below_setRow HB6.out (by have := HBS.out; omega) _⟩
        rw [HRE.out]
        have hBF := below_setRow HB6.out (g := b4) (by have := HBS.out; omega) QA
        obtain ⟨a5, cap5, e5, h5, hy5, hp5⟩ := own_in (HO6.out.rowR HZ6.out (by decide) QA) (by rw [List.length_append, HM.out, List.length_singleton]; omega) (snoc_byte HYY.out HX6.out)
        have hyX := byt_takeR (HXX.out.below (Nat.le_refl _) hBF) (k := k) (by omega)
        rw [← HDL.out] at hyX
        have hlk : bk.dropLast.length = k := hyX.length
        refine ⟨a5, cap5, some ⟨bx, off, none⟩, cap2, ?_, hy5, h5, fun ad e => .inr (hp5 ad e), by rw [hlk]; exact hyX, by rw [hlk]; omega, (HGX.out).mono fun _ h => .inl h⟩
        rw [HQE.out, hlk, ← e5]
end Go.Proofs.YtginbellakkliaaDoor
