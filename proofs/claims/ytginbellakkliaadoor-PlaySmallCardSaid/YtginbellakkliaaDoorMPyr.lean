/- PyRd, PyHs, PyBk in one text. -/
import Derived.Test.YtginbellakkliaaDoorMPyx
import Derived.Test.YtginbellakkliaaDoorPyY

/- The contract of a play's Redo over this seat's program. -/
namespace Go.Proofs.YtginbellakkliaaDoor
open Go.RowKit Go.Shelf Go.Sort

def Ply.redoV (p : Ply) : Nat × Ply :=
  match p.back.getLast? with
  | none => (6, p)
  | some c => (0, ({ p with back := p.back.dropLast } : Ply).put c)
theorem redoV_ok {p : Ply} (h : p.ok) : p.redoV.2.ok := by
  unfold Ply.redoV
  rcases List.eq_nil_or_concat p.back with hb | ⟨init, c, hb⟩
  · rw [hb]; exact h
  · rw [List.concat_eq_append] at hb
    rw [hb]
    simp only [List.getLast?_append, List.getLast?_singleton, Option.some_or, List.dropLast_concat]
    have hm := h.many
    rw [hb, List.length_append] at hm
    refine Ply.put_ok (p := { p with back := init }) ⟨h.st, h.lv, h.dn, h.rk, h.dc, h.steps, (fun x hx => h.back x (by rw [hb]; exact List.mem_append_left _ hx)), by show p.steps.length + init.length ≤ 60000; omega⟩ (h.back c (by rw [hb]; simp)) ?_
    show p.steps.length + 1 + init.length ≤ 60000
    simp at hm; omega
theorem u8_run (ad : Addr) (len cap k : Nat) (hk : k ≤ cap) (wx : World) :
    (Instr.slice 22 (.slice (some ad) len cap) none (some (.int .i64 (k : Int))) none).run Tryd.prog wx = .ok (.slice (some ad) k cap) wx := by
  have hsz : (sizeOf (Tryd.prog.elem 22)).run Tryd.prog wx = .ok 1 wx := by kernel_rfl
  rw [run_slice_h wx 22 _ len cap (by kernel_rfl) _ _ (by omega) (by omega), hsz]
  simp [Result.andThen, sliced, Addr.add]
set_option maxHeartbeats 1000000 in
set_option maxRecDepth 100000 in
theorem ply_redo {w : World} {B base : Nat} {p : Ply} {vs vb : Value} (hp : p.ok) (h : PlyAt w B base p vs vb) (hbB : base ≤ B) :
    Calls Tryd.prog 26 #[.pointer (some ⟨B, 0, none⟩)] w fun e w' => e = .returned (.int .i64 (p.redoV.1 : Int)) ∧
      ∃ vs' vb', PlyAt w' B base p.redoV.2 vs' vb' ∧ Kept (Ply.S B vs vb) w w' ∧ NewB w vs vs' ∧ NewB w vb vb' := by
  obtain ⟨a, cap, hvs, -⟩ := h.ss.slice
  obtain ⟨ab, cb, hvb, hne⟩ := h.bs.slice
  have HM := Lib.hid (ply_made hp h)
  have hR := h.row
  have hmany := hp.many
  unfold Ply.redoV
  rcases List.eq_nil_or_concat p.back with hb | ⟨init, c, hb⟩
  · rw [hb] at hvb ⊢
    have c15 : w.cell? ⟨B, 15, none⟩ = some (.slice ab 0 cb) := by rw [← show vb = .slice ab 0 cb from hvb]; exact hR.cell 15
    go_enter Tryd.func26, Tryd.ntmps26
    go_wp2_with (go_at_call 41; refine HM.out.mono ?_; rintro e w' ⟨rfl, rfl⟩)
    go_ret
    exact ⟨rfl, vs, vb, h, Kept.refl _ _, .inl (congrArg Value.ownBlock hvs), .inl (congrArg Value.ownBlock hvb)⟩
  · rw [List.concat_eq_append] at hb
    have hlen : p.back.length = init.length + 1 := by rw [hb]; simp
    have hc52 : c < 52 := hp.back c (by rw [hb]; simp)
    rw [hb]
    simp only [List.getLast?_append, List.getLast?_singleton, Option.some_or, List.dropLast_concat]
    obtain ⟨g, hg⟩ := hne (by intro e; rw [e] at hlen; simp at hlen)
    rw [hlen, hg] at hvb
    subst hvb
    obtain ⟨k, hk⟩ : ∃ k, init.length = k := ⟨_, rfl⟩
    rw [hk] at h hR hlen ⊢
    have hcap := owns_cap h.bs
    have c15 : w.cell? ⟨B, 15, none⟩ = some (.slice (some ⟨g, 0, none⟩) (k + 1) cb) := hR.cell 15
    have f15 := hR.frozen 15
    have hcl : w.cell? ⟨g, k, none⟩ = some (.int .u8 (c : Int)) := by
      have h1 := Owns.cell h.bs k 0 (by omega) (x := c) (by rw [hb, List.getElem?_append_right (by omega), hk, Nat.sub_self]; rfl)
      rw [Nat.mul_one, Nat.add_zero] at h1; exact h1
    have hsl := u8_run ⟨g, 0, none⟩ (k + 1) cb k (by omega)
    have hl1 : ((k + 1 : Nat) : Int) - 1 = (k : Int) := by omega
    have hk0 : ((k : Int) + 1 == 0) = false := by rw [beq_eq_false_iff_ne]; omega
    have hkI : (k : Int) < (k : Int) + 1 := by omega
    have hkk : k ≤ cb := by omega
    have hk60 : k ≤ 60000 := by omega
    obtain ⟨p0, hp0⟩ : ∃ p0 : Ply, p0 = { p with back := init } := ⟨_, rfl⟩
    rw [← hp0]
    have hok0 : p0.ok := by
      subst hp0
      exact ⟨hp.st, hp.lv, hp.dn, hp.rk, hp.dc, hp.steps, (fun x hx => hp.back x (by rw [hb]; exact List.mem_append_left _ hx)), by show p.steps.length + init.length ≤ 60000; omega⟩
    have h2 : PlyAt (w.setCell ⟨B, 15, none⟩ (.slice (some ⟨g, 0, none⟩) k cb)) B base p0 vs (.slice (some ⟨g, 0, none⟩) k cb) := by
      subst hp0
      have hbs : OwnU w base (.slice (some ⟨g, 0, none⟩) k cb) init := by
        have := owns_shrink h.bs (k := k) (by rw [hlen]; omega)
        rwa [hb, List.take_left' hk] at this
      exact ⟨hR.set 15 _, Owns.kept (row := some B) h.ss (grownBy_set (World.grownBy.refl w (some B)) (.inl rfl) _) (.inl (fun e => h.ns e.symm)),
        Owns.kept (row := some B) hbs (grownBy_set (World.grownBy.refl w (some B)) (.inl rfl) _) (.inl (fun e => h.nb e.symm)), h.ns, h.nb, h.sb⟩
    have hk2 : Kept (Ply.S B vs (.slice (some ⟨g, 0, none⟩) (k + 1) cb)) w (w.setCell ⟨B, 15, none⟩ (.slice (some ⟨g, 0, none⟩) k cb)) := (Kept.refl _ _).setCell (fun hk => hk.1 rfl) _
    have H2 := Lib.hid h2
    have HK2 := Lib.hid hk2
    have HOK := Lib.hid hok0
    have d15 := (hR.set 15 (.slice (some ⟨g, 0, none⟩) k cb)).cell 15
    clear h2 hk2 hok0 hp0 h hR hb hlen hk hne hcap hmany hl1
    subst hvs
    go_enter Tryd.func26, Tryd.ntmps26
    go_wp2_with (first
      | (go_at_call 41; refine HM.out.mono ?_; rintro e w' ⟨rfl, rfl⟩)
      | (go_at_call 47; refine (ply_put HOK.out H2.out hc52 hbB).mono ?_; rintro e w3 ⟨rfl, vs', h3, hk3, hv3⟩))
    go_ret
    refine ⟨rfl, vs', .slice (some ⟨g, 0, none⟩) k cb, h3, HK2.out.trans (hk3.mono (fun k hk => ⟨hk.1, hk.2.1⟩)), ?_, .inl rfl⟩
    rcases hv3 with hv | ⟨g, hv, hg⟩
    · exact .inl hv
    · exact .inr (.inr ⟨g, hv, by have := HK2.out.size; omega⟩)
theorem in_redo {W : World} {B : Nat} {p : Ply} {G : Nat → Prop} (h : InP W B p G) :
    Calls Tryd.prog 26 #[.pointer (some ⟨B, 0, none⟩)] W fun e W' => e = .returned (.int .i64 (p.redoV.1 : Int)) ∧ InP W' B p.redoV.2 G ∧ Kept G W W' := by
  obtain ⟨vs, vb, h1, h2, h3⟩ := h.mem
  exact (ply_redo h.ok h1 (Nat.zero_le _)).mono fun e W' ⟨he, hp⟩ => ⟨he, h.next h2 h3 (redoV_ok h.ok) hp⟩
end Go.Proofs.YtginbellakkliaaDoor

/- Plain: the history of a play, taken back and played again (finesselaw12.PlayBack). -/
namespace Go.Proofs.YtginbellakkliaaDoor
open Go.RowKit Go.Shelf Go.Sort

def Ply.stAt (P : Ply) (j : Nat) : PSt := match P.steps[j]? with | some x => x.st | none => P.st
def Ply.at (P : Ply) (j : Nat) (b : List Nat) : Ply := { P with st := P.stAt j, steps := P.steps.take j, back := b }
def Ply.bk (P : Ply) (j : Nat) : List Nat := ((P.steps.drop j).reverse).map Stp.c
structure Hist (d : Nat → Nat) (n : Nat) (P : Ply) : Prop where
  chn : ∀ j x, P.steps[j]? = some x → P.stAt (j + 1) = x.st.put P.dn x.c
  inv : ∀ j, j ≤ P.steps.length → ∃ t, PInv d n (P.at j []) t
theorem stAt_full (P : Ply) : P.stAt P.steps.length = P.st := by
  unfold Ply.stAt; rw [List.getElem?_eq_none (Nat.le_refl _)]
theorem at_full (P : Ply) (b : List Nat) : P.at P.steps.length b = { P with back := b } := by
  unfold Ply.at; rw [stAt_full, List.take_length]
theorem stAt_lt (P : Ply) {j : Nat} {x : Stp} (h : P.steps[j]? = some x) : P.stAt j = x.st := by unfold Ply.stAt; rw [h]
theorem Hist.new (x : Mn) : Hist x.d x.each (newP x.d x.lv x.dn x.rk x.dc) := by
  refine ⟨fun j y h => by simp [newP] at h, fun j hj => ⟨0, ?_⟩⟩
  have h0 : j = 0 := by simpa [newP] using hj
  subst h0
  exact PInv.new x
theorem PInv.back {d : Nat → Nat} {n t : Nat} {p : Ply} (h : PInv d n p t) (b : List Nat) (hok : ({ p with back := b } : Ply).ok) : PInv d n ({ p with back := b } : Ply) t :=
  ⟨hok, h.bit, h.hpop, h.many, h.gone, h.tr, h.nd, h.cover, h.part, h.far⟩
theorem at_put (P : Ply) (c : Nat) {j : Nat} (hj : j ≤ P.steps.length) (b : List Nat) : (({ P with back := [] } : Ply).put c).at j b = P.at j b := by
  unfold Ply.at Ply.put Ply.stAt
  have h1 : (P.steps ++ [(⟨P.st, c⟩ : Stp)]).take j = P.steps.take j := List.take_append_of_le_length hj
  simp only [h1]
  congr 1
  by_cases hl : j < P.steps.length
  · rw [List.getElem?_append_left hl]
    cases hx : P.steps[j]? with
    | none => exact absurd (List.getElem?_eq_none_iff.1 hx) (by omega)
    | some x => rfl
  · have he : j = P.steps.length := by omega
    subst he
    rw [List.getElem?_append_right (Nat.le_refl _), Nat.sub_self, List.getElem?_eq_none (Nat.le_refl _)]
    rfl
theorem Hist.put {d : Nat → Nat} {n t : Nat} {P : Ply} (h : Hist d n P) (hd : Deal4 d n) (hp : PInv d n P t) {c : Nat} (hc : P.st.legal.testBit c = true) : Hist d n (({ P with back := [] } : Ply).put c) := by
  have hlen : (({ P with back := [] } : Ply).put c).steps = P.steps ++ [⟨P.st, c⟩] := rfl
  refine ⟨fun j x hx => ?_, fun j hj => ?_⟩
  · rw [hlen] at hx
    by_cases hl : j < P.steps.length
    · rw [List.getElem?_append_left hl] at hx
      have h1 := h.chn j x hx
      have h2 := at_put P c (j := j + 1) (by omega) []
      have h3 : (({ P with back := [] } : Ply).put c).stAt (j + 1) = P.stAt (j + 1) := congrArg Ply.st h2
      rw [h3, h1]; rfl
    · have hj2 : j = P.steps.length := by
        have := (List.getElem?_eq_some_iff.1 hx).1
        rw [List.length_append] at this
        simp at this; omega
      subst hj2
      rw [List.getElem?_append_right (Nat.le_refl _), Nat.sub_self] at hx
      obtain rfl : (⟨P.st, c⟩ : Stp) = x := by simpa using hx
      have : (({ P with back := [] } : Ply).put c).steps.length = P.steps.length + 1 := by rw [hlen]; simp
      rw [← this, stAt_full]; rfl
  · rw [hlen, List.length_append] at hj
    by_cases hl : j ≤ P.steps.length
    · rw [at_put P c hl]; exact h.inv j hl
    · have hj2 : j = (({ P with back := [] } : Ply).put c).steps.length := by rw [hlen, List.length_append]; simp at hj ⊢; omega
      rw [hj2, at_full]
      exact ⟨_, (hp.do hd hc).2⟩
theorem at_undo (P : Ply) {j : Nat} {x : Stp} (hx : P.steps[j]? = some x) (b : List Nat) : (P.at (j + 1) b).undoV = (0, P.at j (b ++ [x.c])) := by
  have ht : P.steps.take (j + 1) = P.steps.take j ++ [x] := by rw [List.take_add_one, hx]; rfl
  unfold Ply.undoV Ply.at
  simp only [ht, List.getLast?_append, List.getLast?_singleton, Option.some_or, List.dropLast_concat]
  rw [stAt_lt P hx]
theorem at_redo {d : Nat → Nat} {n : Nat} {P : Ply} (h : Hist d n P) {j : Nat} {x : Stp} (hx : P.steps[j]? = some x) (b : List Nat) : (P.at j (b ++ [x.c])).redoV = (0, P.at (j + 1) b) := by
  have ht : P.steps.take (j + 1) = P.steps.take j ++ [x] := by rw [List.take_add_one, hx]; rfl
  unfold Ply.redoV Ply.at Ply.put
  simp only [List.getLast?_append, List.getLast?_singleton, Option.some_or, List.dropLast_concat, ht]
  rw [stAt_lt P hx, ← h.chn j x hx]
theorem at_redo0 (P : Ply) (j : Nat) : (P.at j []).redoV = (6, P.at j []) := rfl
theorem at_undo0 (P : Ply) (b : List Nat) : (P.at 0 b).undoV = (6, P.at 0 b) := by
  unfold Ply.undoV Ply.at; simp
theorem bk_full (P : Ply) : P.bk P.steps.length = [] := by unfold Ply.bk; rw [List.drop_length]; rfl
theorem bk_succ (P : Ply) {j : Nat} {x : Stp} (hx : P.steps[j]? = some x) : P.bk j = P.bk (j + 1) ++ [x.c] := by
  unfold Ply.bk
  obtain ⟨hl, he⟩ := List.getElem?_eq_some_iff.1 hx
  rw [List.drop_eq_getElem_cons hl, he, List.reverse_cons, List.map_append]; rfl
theorem tld_bk (p : Ply) (b : List Nat) : ({ p with back := b } : Ply).tld = p.tld := by
  unfold Ply.tld
  rw [tks_back p b]; rfl
theorem tld_at (P : Ply) (j : Nat) (b : List Nat) : (P.at j b).tld = (P.at j []).tld := by
  have := tld_bk (P.at j []) b
  exact this
def Ply.wl (P : Ply) : List Tld := (List.range (P.steps.length + 1)).map fun i => (P.at i []).tld
theorem wl_len (P : Ply) : P.wl.length = P.steps.length + 1 := by simp [Ply.wl]
theorem wl_get (P : Ply) {i : Nat} (h : i ≤ P.steps.length) : P.wl[i]? = some (P.at i []).tld := by
  unfold Ply.wl
  rw [List.getElem?_map, List.getElem?_range (by omega)]; rfl
theorem wl_new (d : Nat → Nat) (lv dn rk dc : Nat) : (newP d lv dn rk dc).wl = [(newP d lv dn rk dc).tld] := rfl
theorem wl_put (P : Ply) (c : Nat) : (({ P with back := [] } : Ply).put c).wl = P.wl ++ [(({ P with back := [] } : Ply).put c).tld] := by
  have hlen : (({ P with back := [] } : Ply).put c).steps.length = P.steps.length + 1 := by unfold Ply.put; simp
  unfold Ply.wl
  rw [hlen, List.range_succ, List.map_append]
  congr 1
  · refine List.map_congr_left fun i hi => ?_
    rw [at_put P c (by have := List.mem_range.1 hi; omega)]
  · have := at_full (({ P with back := [] } : Ply).put c) []
    rw [hlen] at this
    show [((({ P with back := [] } : Ply).put c).at (P.steps.length + 1) []).tld] = _
    rw [this]; rfl
theorem Hist.not_over {d : Nat → Nat} {n j : Nat} {P : Ply} (h : Hist d n P) (hj : j < P.steps.length) : (P.at j []).st.over = false := by
  obtain ⟨t, ht⟩ := h.inv j (by omega)
  obtain ⟨t2, ht2⟩ := h.inv P.steps.length (Nat.le_refl _)
  cases ho : (P.at j []).st.over
  · rfl
  · exfalso
    have h1 := ht.over_iff.1 ho
    have h2 := ht.ct_over h1
    have h3 := ht.many
    have h4 : (P.at j []).steps.length = j := by show (P.steps.take j).length = j; rw [List.length_take]; omega
    have h5 := ht2.many
    have h6 : (P.at P.steps.length []).steps.length = P.steps.length := by rw [at_full]
    have h7 := ht2.t_le
    have h8 := ht2.ct_over
    have h9 := ht2.ok.st.ct
    rw [h4] at h3
    rw [h6] at h5
    by_cases he : t2 = n
    · have := h8 he; omega
    · omega
end Go.Proofs.YtginbellakkliaaDoor

/- A slice of what look returned: made and appended to (finesselaw12.PlayBack), over this seat's program. -/
namespace Go.Proofs.YtginbellakkliaaDoor
open Go.RowKit Go.Shelf Go.Sort

abbrev Tld.cs (x : Tld) : List Value := [.int .u8 (x.t : Int), .int .i64 (x.e : Int), .int .u64 (x.L : Int), .int .u64 (x.h 0 : Int), .int .u64 (x.h 1 : Int), .int .u64 (x.h 2 : Int), .int .u64 (x.h 3 : Int), .int .i64 (x.ns : Int), .int .i64 (x.ew : Int), .int .i64 (x.mn : Int)]
theorem tld_cl (x : Tld) : x.cs.length = 10 := rfl
abbrev OwnT (w : World) (base : Nat) (v : Value) (l : List Tld) : Prop := Owns Tld.cs 10 51 w base v l
theorem info_told : (Tryd.prog.info? 51).map (fun i => (i.zero, i.size, i.bytes)) = some (some (.agg #[.int .u8 0, .int .i64 0, .int .u64 0, .int .u64 0, .int .u64 0, .int .u64 0, .int .u64 0, .int .i64 0, .int .i64 0, .int .i64 0]), 10, 80) := by kernel_rfl
theorem ownT_one (w : World) (base : Nat) (h : base ≤ w.heap.size) (x : Tld) : OwnT (w.alloc (.cells x.cells 51)) base (.slice (some ⟨w.heap.size, 0, none⟩) 1 1) [x] :=
  ⟨tld_cl, by simp, .inr ⟨w.heap.size, 1, x.cells, rfl, h, World.alloc_heap_new w _, Nat.le_refl _, by unfold maxLen; omega, rfl, by simp⟩⟩
theorem told_one (x : Tld) : ∀ u ∈ x.cs, u.oneCell' = true := by
  intro u hu
  simp only [List.mem_cons, List.not_mem_nil, or_false] at hu
  rcases hu with rfl | rfl | rfl | rfl | rfl | rfl | rfl | rfl | rfl | rfl <;> rfl
theorem told_new (w : World) (x : Tld) : ∀ j u, x.cs[j]? = some u → (w.alloc (.cells x.cells 51)).cell? ((⟨w.heap.size, 0, none⟩ : Addr).add j) = some u := by
  intro j u hu
  rw [show (⟨w.heap.size, 0, none⟩ : Addr).add j = ⟨w.heap.size, j, none⟩ by simp [Addr.add]; intro h; omega, (Row.new w 51 x.cells).cell j, show x.cells = x.cs.toArray from rfl, List.getElem?_toArray]
  exact hu
/-- append(v, x), v the call's own -/
theorem appT {w : World} {ops : Array Oper} {rest : List Oper} {o : Oper} {a : Act} {Q : Exit → Act → World → Prop} (hgd : o.guard = none) (s xo : Operand)
    (ho : o.op = .call { callee := .builtin .append, args := #[s, xo], argTypes := #[56, 56] })
    (base : Nat) (v : Value) (l : List Tld) (x : Tld) (hs : a.eval s = v) (hown : OwnT (w.alloc (.cells x.cells 51)) base v l) (hx : a.eval xo = .slice (some ⟨w.heap.size, 0, none⟩) 1 1)
    (hb : l.length ≤ 60000) (hbase : base ≤ w.heap.size)
    (h : ∀ v' w', OwnT w' base v' (l ++ [x]) → (w.alloc (.cells x.cells 51)).grownBy w' v.ownBlock → (v'.ownBlock = v.ownBlock ∨ v'.ownBlock = some (w.heap.size + 1)) → wpList Tryd.prog ops Q rest (a.put o.dst v') w') : wpList Tryd.prog ops Q (o :: rest) a (w.alloc (.cells x.cells 51)) := by
  obtain ⟨i0, hi, hz0, hz1, hz2⟩ := info_parts info_told
  refine wpList_append_own_at _ hgd s xo 56 ho base 51 i0 _ 10 80 Tryd.underlying56 hi hz0 hz1 hz2 rfl (by decide) v l.length (l.flatMap Tld.cs) hs hown.2 ⟨w.heap.size, 0, none⟩ 1 1 x.cs hx rfl (told_new w x) (told_one x) (by unfold maxLen; omega) (by omega) (by rw [World.size_alloc]; omega) ?_
  intro v' w' h1 h2 _ h3
  rw [World.size_alloc] at h3
  refine h v' w' ⟨tld_cl, ?_⟩ h2 h3
  rw [List.length_append, List.flatMap_append]
  simpa using h1
end Go.Proofs.YtginbellakkliaaDoor
