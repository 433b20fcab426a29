/- SgF, SgG in one text. -/
import Derived.Test.YtikdkhiehfccpaaMSgd
import Derived.Test.YtikdkhiehfccpaaApl
import Derived.Maps.OwnOps
import Derived.Maps.OwnSet
import Derived.Maps.Views

/- Claims in memory; contract of signal.Announced over this seat's program. -/
namespace Go.Proofs.Ytikdkhiehfccpaa
open Go.RowKit Go.Sort Go.Shelf Cnt

/-- a claim -/
structure Cm where
  s : Int
  lo : Int
  hi : Int
  rs : List Rg
/-- a slice of claims that reads as the list cs in the world w -/
structure Cms (w : World) (a : Option Addr) (len : Nat) (cs : List Cm) : Prop where
  length : cs.length = len
  small : len ≤ 14073748835123
  cells : len = 0 ∨ ∃ b off, a = some ⟨b, off, none⟩ ∧ b < w.heap.size ∧ ∀ i x, cs[i]? = some x → ∃ ai ci, w.cell? ⟨b, off + i * 4, none⟩ = some (.int .i64 x.s) ∧ w.cell? ⟨b, off + i * 4 + 1, none⟩ = some (.int .i64 x.lo) ∧ w.cell? ⟨b, off + i * 4 + 2, none⟩ = some (.int .i64 x.hi) ∧ w.cell? ⟨b, off + i * 4 + 3, none⟩ = some (.slice ai x.rs.length ci) ∧ RgC w ai ci x.rs
theorem Cms.below {w w' : World} {a : Option Addr} {len : Nat} {cs : List Cm} (h : Cms w a len cs) {B : Nat} (hB : w.heap.size ≤ B) (hb : Below B w w') : Cms w' a len cs := by
  refine ⟨h.length, h.small, ?_⟩
  rcases h.cells with h | ⟨b, off, ha, hlt, hc⟩
  · exact .inl h
  · refine .inr ⟨b, off, ha, Nat.lt_of_lt_of_le hlt hb.size, fun i x hx => ?_⟩
    obtain ⟨ai, ci, h1, h2, h3, h4, h5⟩ := hc i x hx
    have k : ∀ o, w'.cell? ⟨b, o, none⟩ = w.cell? ⟨b, o, none⟩ := fun o => hb.cell (p := ⟨b, _, none⟩) (Nat.lt_of_lt_of_le hlt hB)
    exact ⟨ai, ci, (k _).trans h1, (k _).trans h2, (k _).trans h3, (k _).trans h4, h5.below (hb.mono hB)⟩
theorem Cms.at {w : World} {a : Option Addr} {len : Nat} {cs : List Cm} (h : Cms w a len cs) {k : Nat} (hk : k < len) :
    ∃ b off x ai ci, a = some ⟨b, off, none⟩ ∧ cs[k]? = some x ∧ w.cell? ⟨b, off + k * 4, none⟩ = some (.int .i64 x.s) ∧ w.cell? ⟨b, off + k * 4 + 1, none⟩ = some (.int .i64 x.lo) ∧ w.cell? ⟨b, off + k * 4 + 2, none⟩ = some (.int .i64 x.hi) ∧ w.cell? ⟨b, off + k * 4 + 3, none⟩ = some (.slice ai x.rs.length ci) ∧ RgC w ai ci x.rs := by
  rcases h.cells with h0 | ⟨b, off, ha, _, hc⟩
  · omega
  · have hx : cs[k]? = some (cs[k]'(by have := h.length; omega)) := List.getElem?_eq_getElem _
    obtain ⟨ai, ci, h1⟩ := hc k _ hx
    exact ⟨b, off, _, ai, ci, ha, hx, h1⟩
theorem Cms.nil (w : World) : Cms w none 0 [] := ⟨rfl, by decide, .inl rfl⟩
abbrev Cm.arr (x : Cm) (ai : Option Addr) (ci : Nat) : Array Value := #[.int .i64 x.s, .int .i64 x.lo, .int .i64 x.hi, .slice ai x.rs.length ci]
def Cm.ok (x : Cm) : Bool := namedB x.s && rightV x.rs && decide (0 ≤ x.lo) && decide (x.lo ≤ x.hi) && decide (x.hi ≤ 1000)
def annV (cs : List Cm) : Bool := decide (cs.length ≤ 20) && cs.all Cm.ok
theorem ann_bad {cs : List Cm} {k : Nat} {x : Cm} (hx : cs[k]? = some x) (h : x.ok = false) : annV cs = false := by
  unfold annV
  have : cs.all Cm.ok = false := by
    rw [List.all_eq_false]
    exact ⟨x, List.mem_of_getElem? hx, by rw [h]; decide⟩
  rw [this, Bool.and_false]
theorem ann_long {cs : List Cm} (h : 20 < cs.length) : annV cs = false := by
  unfold annV
  rw [decide_eq_false (by omega)]; rfl
theorem okc_succ {cs : List Cm} {k : Nat} {x : Cm} (hx : cs[k]? = some x) (h0 : (cs.take k).all Cm.ok = true) (h : x.ok = true) : (cs.take (k + 1)).all Cm.ok = true := by
  rw [take_snoc hx, List.all_append, h0]; simp [h]
set_option maxHeartbeats 2000000 in
theorem sg_Announced (a : Option Addr) (la ca : Nat) (cs : List Cm) (w : World) (ha : Cms w a la cs) :
    Calls Try.prog 16 #[.slice a la ca] w fun e w' => e = .returned (.bool (annV cs)) ∧ Below w.heap.size w w' := by
  have HA := Lib.hid ha
  have hsm := ha.small
  have hln := ha.length
  clear ha
  by_cases h20 : 20 < la
  · have d20 : decide ((20 : Int) < (la : Int)) = true := by simp; omega
    have HF : Hid (annV cs = false) := Lib.hid (ann_long (by omega))
    clear hln
    go_enter Try.func16, Try.ntmps16
    go_wp2_with fail
    go_ret
    exact ⟨by rw [HF.out]; rfl, Below.refl _ _⟩
  · have d20 : decide ((20 : Int) < (la : Int)) = false := by simp; omega
    clear hln
    go_enter Try.func16, Try.ntmps16
    go_wp2_with fail
    go_loopw [4, 10] (fun _ i wr => ∃ (k : Nat), k ≤ la ∧ i = .int .i64 (k : Int) ∧ (cs.take k).all Cm.ok = true ∧ Below w.heap.size w wr) (fun _ i _ => la - (intOf i).toNat)
    case atStart => exact ⟨0, by omega, rfl, rfl, Below.refl _ _⟩
    case round =>
      obtain ⟨k, hk, rfl, hok, hB⟩ := hrel
      by_cases hlt : k < la
      · obtain ⟨b, off, x, ai, ci, rfl, hx, c0, c1, c2, c3, hR⟩ := (HA.out.below (Nat.le_refl _) hB).at hlt
        have hd : decide ((k : Int) < (la : Int)) = true := by simp; omega
        have HX := Lib.hid hx
        have HOK := Lib.hid fun h => okc_succ hx hok h
        have hw : Below wr.heap.size wr (wr.alloc (.cells (x.arr ai ci) 29)) := (Below.refl _ _).alloc (Nat.le_refl _) _
        have HR1 := Lib.hid (hR.below hw)
        have HB1 := Lib.hid (hB.trans (hw.mono hB.size))
        have HXO : Hid (x.ok = (namedB x.s && rightV x.rs && decide (0 ≤ x.lo) && decide (x.lo ≤ x.hi) && decide (x.hi ≤ 1000))) := Lib.hid rfl
        clear hx hB hR hw hok
        cases hn : namedB x.s
        · have HF := Lib.hid (ann_bad HX.out (by rw [HXO.out, hn]; rfl))
          go_wp2_with (go_at_call 42; refine (sg_named x.s _).mono ?_; rintro e w' ⟨rfl, rfl⟩; rw [hn])
          go_ret
          exact ⟨by rw [HF.out]; rfl, HB1.out⟩
        · go_wp2_with (go_at_call 42; refine (sg_named x.s _).mono ?_; rintro e w' ⟨rfl, rfl⟩; rw [hn])
          refine (ag_Right ai x.rs.length ci x.rs _ HR1.out.rgs).mono ?_
          rintro e w2 ⟨rfl, hb2⟩
          have hrw := (Row.new wr 29 (x.arr ai ci)).later hb2
          have HB2 := Lib.hid (HB1.out.trans (hb2.mono HB1.out.size))
          have e1 := hrw.cell 1
          have e2 := hrw.cell 2
          simp only [List.getElem?_toArray, List.getElem?_cons_zero, List.getElem?_cons_succ] at e1 e2
          clear hb2 HB1 HR1 hrw
          have HXB : Hid (rightV x.rs = false ∨ x.lo < 0 ∨ x.hi < x.lo ∨ 1000 < x.hi → annV cs = false) := Lib.hid fun h => ann_bad HX.out (by
            rw [HXO.out]
            rcases h with h | h | h | h
            · rw [h]; simp
            · rw [decide_eq_false (show ¬ 0 ≤ x.lo by omega)]; simp
            · rw [decide_eq_false (show ¬ x.lo ≤ x.hi by omega)]; simp
            · rw [decide_eq_false (show ¬ x.hi ≤ 1000 by omega)]; simp)
          cases hr : rightV x.rs
          · have HF := Lib.hid (HXB.out (.inl hr))
            clear HXB
            go_wp2_with fail
            go_ret
            exact ⟨by rw [HF.out]; rfl, HB2.out⟩
          · by_cases q1 : x.lo < 0
            · have g1 : decide (x.lo < 0) = true := decide_eq_true q1
              have HF := Lib.hid (HXB.out (.inr (.inl q1)))
              clear HXB
              go_wp2_with fail
              go_ret
              exact ⟨by rw [HF.out]; rfl, HB2.out⟩
            · have g1 : decide (x.lo < 0) = false := decide_eq_false q1
              by_cases q2 : x.hi < x.lo
              · have g2 : decide (x.hi < x.lo) = true := decide_eq_true q2
                have HF := Lib.hid (HXB.out (.inr (.inr (.inl q2))))
                clear HXB
                go_wp2_with fail
                go_ret
                exact ⟨by rw [HF.out]; rfl, HB2.out⟩
              · have g2 : decide (x.hi < x.lo) = false := decide_eq_false q2
                by_cases q3 : 1000 < x.hi
                · have g3 : decide (1000 < x.hi) = true := decide_eq_true q3
                  have HF := Lib.hid (HXB.out (.inr (.inr (.inr q3))))
                  clear HXB
                  go_wp2_with fail
                  go_ret
                  exact ⟨by rw [HF.out]; rfl, HB2.out⟩
                · have g3 : decide (1000 < x.hi) = false := decide_eq_false q3
                  have HO2 := Lib.hid (HOK.out (by rw [HXO.out, hn, hr, decide_eq_true (show 0 ≤ x.lo by omega), decide_eq_true (show x.lo ≤ x.hi by omega), decide_eq_true (show x.hi ≤ 1000 by omega)]; rfl))
                  clear HXB HOK q1 q2 q3
                  go_wp2_with fail
                  exact ⟨⟨k + 1, by omega, by simp, HO2.out, HB2.out⟩, by simp [intOf]; omega⟩
      · obtain rfl : k = la := by omega
        have hd : decide ((k : Int) < (k : Int)) = false := by simp
        have HT : Hid (annV cs = true) := Lib.hid (by
          rw [List.take_of_length_le (by have := HA.out.length; omega)] at hok
          unfold annV
          rw [hok, decide_eq_true (show cs.length ≤ 20 by have := HA.out.length; omega)]; rfl)
        have HB := Lib.hid hB
        clear hB hok
        go_wp2_with fail
        go_ret
        exact ⟨by rw [HT.out]; rfl, HB.out⟩
end Go.Proofs.Ytikdkhiehfccpaa

/- Faults, plain; a map from ints to bools that the call makes; contract of signal.gather over this seat's program. -/
namespace Go.Proofs.Ytikdkhiehfccpaa
open Go.RowKit Go.Sort Go.Shelf Cnt Go.Maps

/-- a fault -/
structure Fl where
  c : Int
  s : Int
  k : Nat
  h : Int
abbrev encF (x : Fl) : List Value := [.int .i64 x.c, .int .i64 x.s, .int .u8 (x.k : Int), .int .i64 x.h]
theorem encF_len (x : Fl) : (encF x).length = 4 := rfl
theorem encF_one (x : Fl) : ∀ u ∈ encF x, u.oneCell' = true := by
  intro u hu
  simp at hu
  rcases hu with rfl | rfl | rfl | rfl <;> rfl
theorem info_fl : (Try.prog.info? 46).map (fun i => (i.zero, i.size, i.bytes)) = some (some (.agg #[.int .i64 0, .int .i64 0, .int .u8 0, .int .i64 0]), 4, 32) := by kernel_rfl
abbrev OwnF (w : World) (base : Nat) (v : Value) (fs : List Fl) : Prop := Owns encF 4 46 w base v fs
theorem one_cells {α : Type} (enc : α → List Value) (w : World) (c : α) (T : TypeId) : ∀ j u, ([c].flatMap enc)[j]? = some u → (w.alloc (.cells (enc c).toArray T)).cell? ((⟨w.heap.size, 0, none⟩ : Addr).add j) = some u := by
  intro j u hu
  refine cells_new w (enc c) T j u ?_
  simpa using hu
/-- gather(v, one fault), the fault in a block of its own -/
theorem sg_gather (base : Nat) (v : Value) (fs : List Fl) (x : Fl) (w0 : World) (hv : OwnF w0 base v fs) (hbase : base ≤ w0.heap.size) (hlen : fs.length ≤ 1000) :
    Calls Try.prog 38 #[v, .slice (some ⟨w0.heap.size, 0, none⟩) 1 1] (w0.alloc (.cells (encF x).toArray 46)) fun e w' =>
      ∃ v', e = .returned v' ∧ OwnF w' base v' (fs ++ [x]) ∧ Below base w0 w' ∧ w0.grownBy w' v.ownBlock ∧ (v'.ownBlock = v.ownBlock ∨ ∃ g, v'.ownBlock = some g ∧ w0.heap.size ≤ g) := by
  have HV := Lib.hid (hv.alloc (.cells (encF x).toArray 46))
  have HB : Hid (base ≤ (w0.alloc (.cells (encF x).toArray 46)).heap.size) := Lib.hid (by rw [World.size_alloc]; omega)
  have HC := Lib.hid (one_cells encF w0 x 46)
  go_enter Try.func38, Try.ntmps38
  go_wp2_with (refine appO (enc := encF) (m := 4) rfl (.tmp 5) (.tmp 6) 34 rfl Try.underlying34 _ 32 info_fl (by decide) rfl (by decide) encF_one base v fs [x] rfl HV.out ⟨w0.heap.size, 0, none⟩ 1 1 rfl rfl HC.out (by omega) HB.out ?_; intro v' w' h1 h2 h3 h4; have H1 := Lib.hid h1; have H2 := Lib.hid h2; have H3 := Lib.hid h3; have H4 := Lib.hid h4; clear h1 h2 h3 h4)
  have hg := grownBy_trans (World.grownBy_alloc w0 (.cells (encF x).toArray 46) v.ownBlock) H3.out
  refine bodyPost_ret (v := v') (by simp [results, Try.results38, go_sem]) rfl ⟨v', rfl, H1.out, ((Below.refl _ _).alloc hbase _).trans H2.out, hg, ?_⟩
  rcases H4.out with h | h
  · exact .inl h
  · exact .inr ⟨_, h, by simp⟩

/-- a map from ints to bools, the call's own -/
def AM (w : World) (bm n : Nat) (kn : Int → Bool) : Prop := ∃ D : DataW Unit, w.ownsMap Try.prog 3 (plainElem Try.prog 4) bm n D ∧ ∀ s : Int, 0 ≤ s → s ≤ 9 → D.atKey (.int .i64 s) (.lit (.bool false)) = .lit (.bool (kn s))
theorem AM.made (w : World) : AM (w.alloc (.map #[] 0)) w.heap.size 0 (fun _ => false) := ⟨.map [], World.ownsMap_made _ _ _ _, fun _ _ _ => rfl⟩
theorem AM.kept {w w' : World} {bm n : Nat} {kn : Int → Bool} {row : Option Nat} (h : AM w bm n kn) (hg : w.grownBy w' row) (hne : some bm ≠ row) : AM w' bm n kn := by
  obtain ⟨D, h1, h2⟩ := h
  exact ⟨D, h1.kept hg hne, h2⟩
theorem AM.lt {w : World} {bm n : Nat} {kn : Int → Bool} (h : AM w bm n kn) : bm < w.heap.size := by
  obtain ⟨D, h1, _⟩ := h; exact h1.lt
theorem AM.later {w w' : World} {bm n : Nat} {kn : Int → Bool} (h : AM w bm n kn) (hb : Below w.heap.size w w') : AM w' bm n kn :=
  h.kept (row := none) ⟨hb.os, hb.tape, hb.output, hb.size, fun k hk _ => hb.block k hk⟩ (by simp)
theorem AM.mono {w : World} {bm n m : Nat} {kn : Int → Bool} (h : AM w bm n kn) (hm : n ≤ m) : AM w bm m kn := by
  obtain ⟨D, h1, h2⟩ := h
  exact ⟨D, h1.mono hm, h2⟩
theorem key_wf {s : Int} (h0 : 0 ≤ s) (h9 : s ≤ 9) : (Lit.int .i64 s).wf = true := WalkArith.wf_i64 (by omega)
theorem run_bool_zero (w : World) : (zeroValue 4).run Try.prog w = .ok (.bool false) w := by kernel_rfl
theorem plainElem_bool_inv {H : Type} {P : Program} {e : TypeId} (he : P.underlying e = some .bool) {v : Value} {z : DataW H × List MemPlace} (h : plainElem P e v = some z) : ∃ b, v = .bool b ∧ z = (.lit (.bool b), []) := by
  unfold plainElem at h
  rw [he] at h
  cases v <;> simp at h
  exact ⟨_, rfl, h.symm⟩
/-- m[s] = true -/
theorem am_update {w : World} {ops : Array Oper} {rest : List Oper} {o : Oper} {a : Act} {Q : Exit → Act → World → Prop} (hg : o.guard = none) (m x v : Operand) (hop : o.op = Op.mapUpdate 93 m x v)
    (bm n : Nat) (kn : Int → Bool) (hm : a.eval m = .map (some bm)) (hown : AM w bm n kn) (hn : n < 1000) (s : Int) (h0 : 0 ≤ s) (h9 : s ≤ 9) (hx : a.eval x = .int .i64 s) (hv : a.eval v = .bool true)
    (hK : ∀ w', AM w' bm (n + 1) (fun t => kn t || t == s) → w.grownBy w' (some bm) → wpList Try.prog ops Q rest (a.put o.dst undef) w') : wpList Try.prog ops Q (o :: rest) a w := by
  obtain ⟨D, h1, h2⟩ := hown
  refine wpList_mapUpdate_own w hg m x v 93 hop 3 4 (int_keyed Try.underlying3) Try.underlying93 _ bm n D hm h1 (by unfold maxLen; omega) _ _ (.int .i64 s) hx hv (keyOf_int_mk Try.underlying3 (key_wf h0 h9)) (.lit (.bool true)) [] (plainElem_bool Try.underlying4 true) ?_
  intro w' h3 h4
  refine hK w' ⟨_, h3, fun t ht0 ht9 => ?_⟩ h4
  by_cases e : t = s
  · subst e
    have := atKey_put_same (h1.isMap) (k := (.int .i64 t)) trivial (.lit (.bool true)) (.lit (.bool false))
    rw [this]; simp
  · rw [atKey_put_other (fun h => e (by injection h)), h2 t ht0 ht9]
    simp [e]
/-- m[s], as an equation -/
theorem am_run {w : World} {bm n : Nat} {kn : Int → Bool} (hown : AM w bm n kn) (s : Int) (h0 : 0 ≤ s) (h9 : s ≤ 9) : (Instr.lookup 93 (.map (some bm)) (.int .i64 s) false).run Try.prog w = .ok (.bool (kn s)) w := by
  obtain ⟨D, h1, h2⟩ := hown
  obtain ⟨v, ps, hrun, hv⟩ := h1.lookup (int_keyed Try.underlying3) Try.underlying93 (run_bool_zero w) (plainElem_bool Try.underlying4 false) (keyOf_int_mk Try.underlying3 (key_wf h0 h9))
  obtain ⟨b, rfl, hc⟩ := plainElem_bool_inv Try.underlying4 hv
  simp only [Prod.mk.injEq] at hc
  rw [h2 s h0 h9] at hc
  have hb : b = kn s := by have := hc.1; simp at this; exact this.symm
  subst hb
  exact hrun
end Go.Proofs.Ytikdkhiehfccpaa
