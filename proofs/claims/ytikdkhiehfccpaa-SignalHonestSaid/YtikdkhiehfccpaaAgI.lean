/- Contract of the iterator agree.hands over this seat's program: the recursive step (printed by wip/genagi.py). -/
import Derived.Test.YtikdkhiehfccpaaAgH
import Derived.Shelf.Abstract
import Derived.Shelf.RegionOpen
import Derived.WalkKit
import Derived.OwnWalkIn
import Derived.TacticsInMore
import Derived.LoopNIn
import Derived.LoopIn
namespace Go.Proofs.Ytikdkhiehfccpaa
open Go.RowKit Go.Sort Go.Shelf Cnt
attribute [local go_sem] Oper.semAt_some

/-- the cells of four lengths -/
abbrev larr (m : Nat → Nat) : Array Value := #[.int .i64 (m 0 : Int), .int .i64 (m 1 : Int), .int .i64 (m 2 : Int), .int .i64 (m 3 : Int)]
/-- the iterator's own blocks -/
structure NxW (By Bl Bs Bx l : Nat) (hv : Nat → Nat) (W : World) (i : Nat) (lf : Nat → Nat) : Prop where
  yl : Row W By 141 #[.func (.yield l) #[] #[]]
  ln : ∃ m, Row W Bl 112 (larr m) ∧ ∀ j, j < i → m j = lf j
  st : Row W Bs 143 (tab 616 hv)
  nx : Row W Bx 145 #[.func (.func 73) #[] #[.pointer (some ⟨By, 0, none⟩), .pointer (some ⟨Bl, 0, none⟩), .pointer (some ⟨Bs, 0, none⟩), .pointer (some ⟨Bx, 0, none⟩)]]
/-- of the blocks from B0 on all but one lie as they lay -/
structure Held (B0 Bl : Nat) (W W' : World) : Prop where
  size : W.heap.size ≤ W'.heap.size
  same : ∀ k, B0 ≤ k → k < W.heap.size → k ≠ Bl → W'.heap[k]? = W.heap[k]?
theorem Held.refl (B0 Bl : Nat) (W : World) : Held B0 Bl W W := ⟨Nat.le_refl _, fun _ _ _ _ => rfl⟩
theorem Held.trans {B0 Bl : Nat} {X Y Z : World} (h : Held B0 Bl X Y) (k : Held B0 Bl Y Z) : Held B0 Bl X Z :=
  ⟨Nat.le_trans h.size k.size, fun i hi hl hn => (k.same i hi (Nat.lt_of_lt_of_le hl h.size) hn).trans (h.same i hi hl hn)⟩
theorem Held.of_below {B0 Bl : Nat} {X Y : World} (h : Below X.heap.size X Y) : Held B0 Bl X Y := ⟨h.size, fun i _ hl _ => h.block i hl⟩
theorem Held.of_stays {K : Nat → Prop} {B0 Bl : Nat} {X Y : World} (h : Stays K B0 X Y) : Held B0 Bl X Y := ⟨h.size, fun i hi hl _ => h.same i (.inr hi) hl⟩
theorem Held.row {B0 Bl : Nat} {X Y : World} (h : Held B0 Bl X Y) {b : Nat} {t : TypeId} {c : Array Value} (hb : B0 ≤ b) (hn : b ≠ Bl) (hr : Row X b t c) : Row Y b t c := hr.same (h.same b hb hr.lt hn)
theorem Held.set {B0 Bl : Nat} {X : World} (i : Nat) (v : Value) : Held B0 Bl X (X.setCell ⟨Bl, i, none⟩ v) :=
  ⟨by simp [World.setCell], fun k _ _ hn => Below.heap_setCell _ _ _ _ hn⟩
/-- where the blocks lie -/
structure Lies (B0 By Bl Bs Bx : Nat) : Prop where
  y : B0 ≤ By
  l : B0 ≤ Bl
  s : B0 ≤ Bs
  x : B0 ≤ Bx
  yl : By ≠ Bl
  sl : Bs ≠ Bl
  xl : Bx ≠ Bl
theorem NxW.held {B0 By Bl Bs Bx l : Nat} {hv : Nat → Nat} {W W' : World} {i : Nat} {lf : Nat → Nat} (h : NxW By Bl Bs Bx l hv W i lf) (hl : Lies B0 By Bl Bs Bx) (hh : Held B0 Bl W W') (he : W'.heap[Bl]? = W.heap[Bl]?) : NxW By Bl Bs Bx l hv W' i lf := by
  obtain ⟨m, hm, hj⟩ := h.ln
  exact ⟨hh.row hl.y hl.yl h.yl, ⟨m, hm.same he, hj⟩, hh.row hl.s hl.sl h.st, hh.row hl.x hl.xl h.nx⟩
theorem NxW.below {By Bl Bs Bx l : Nat} {hv : Nat → Nat} {W W' : World} {i : Nat} {lf : Nat → Nat} (h : NxW By Bl Bs Bx l hv W i lf) (hb : Below W.heap.size W W') : NxW By Bl Bs Bx l hv W' i lf := by
  obtain ⟨m, hm, hj⟩ := h.ln
  exact ⟨h.yl.later hb, ⟨m, hm.later hb, hj⟩, h.st.later hb, h.nx.later hb⟩
theorem NxW.less {By Bl Bs Bx l : Nat} {hv : Nat → Nat} {W : World} {i len : Nat} {lf : Nat → Nat} (h : NxW By Bl Bs Bx l hv W (i + 1) (upd lf i len)) : NxW By Bl Bs Bx l hv W i lf := by
  obtain ⟨m, hm, hj⟩ := h.ln
  exact ⟨h.yl, ⟨m, hm, fun j hji => by rw [hj j (by omega)]; unfold upd; rw [if_neg (by omega)]⟩, h.st, h.nx⟩
/-- what is yielded -/
abbrev encC (x : Cl) : Array Value := #[len4 x.1, .agg (tab 41 x.2)]
theorem larr_upd (m : Nat → Nat) (i v : Nat) (hi : i < 4) : (larr m).setIfInBounds i (.int .i64 (v : Int)) = larr (upd m i v) := by
  have : i = 0 ∨ i = 1 ∨ i = 2 ∨ i = 3 := by omega
  rcases this with rfl | rfl | rfl | rfl <;> rfl
theorem larr_get (m : Nat → Nat) (i : Nat) (hi : i < 4) : (larr m)[i]? = some (.int .i64 (m i : Int)) := by
  have : i = 0 ∨ i = 1 ∨ i = 2 ∨ i = 3 := by omega
  rcases this with rfl | rfl | rfl | rfl <;> rfl
theorem under81 : Try.prog.underlying 112 = some (.array 4 3) := by kernel_rfl
theorem size81 : (Try.prog.info? 112).map (·.size) = some 4 := by kernel_rfl
/-- the promise of a round, for the iterator's own part -/
def Rounds (n l : Nat) (K : Nat → Prop) (B0 : Nat) (xs : List Cl) (J : List Cl → World → Prop) : Prop :=
  ∀ pre x suf W1, xs = pre ++ x :: suf → J pre W1 → B0 ≤ W1.heap.size → YieldAt Fence.wide (n - 1) Try.prog l (encC x) W1 fun e W' => e = .returned (.bool true) ∧ J (pre ++ [x]) W' ∧ Stays K B0 W1 W'
/-- what a call of the step does -/
def NxPost (B0 By Bl Bs Bx l : Nat) (hv : Nat → Nat) (J : List Cl → World → Prop) (i : Nat) (lf : Nat → Nat) (ys : List Cl) (W : World) (e : Ending) (W' : World) : Prop :=
  e = .returned (.bool true) ∧ J ys W' ∧ NxW By Bl Bs Bx l hv W' i lf ∧ Held B0 Bl W W'

section
variable {n l B0 By Bl Bs Bx : Nat} {K : Nat → Prop} {hv : Nat → Nat} {xs : List Cl} {J : List Cl → World → Prop}
set_option maxRecDepth 5000 in
theorem next0 (hY : Rounds n l K B0 xs J) (hJ : Shut B0 J) (hL : Lies B0 By Bl Bs Bx) (rest : Nat) (lf f : Nat → Nat) (pre suf : List Cl) (W : World) (hxs : xs = pre ++ (lf, f) :: suf) (hpre : J pre W) (hsz : B0 ≤ W.heap.size) (hN : NxW By Bl Bs Bx l hv W 4 lf) :
    Calls Try.prog 73 #[.int .i64 4, .int .i64 (rest : Int), .agg (tab 41 f), .pointer (some ⟨By, 0, none⟩), .pointer (some ⟨Bl, 0, none⟩), .pointer (some ⟨Bs, 0, none⟩), .pointer (some ⟨Bx, 0, none⟩)] W (NxPost B0 By Bl Bs Bx l hv J 4 lf (pre ++ [(lf, f)]) W) := by
  obtain ⟨m, hm, hml⟩ := hN.ln
  have em : larr m = larr lf := by rw [show larr m = #[.int .i64 (m 0 : Int), .int .i64 (m 1 : Int), .int .i64 (m 2 : Int), .int .i64 (m 3 : Int)] from rfl, hml 0 (by omega), hml 1 (by omega), hml 2 (by omega), hml 3 (by omega)]
  rw [em] at hm
  have hb : Below W.heap.size W (W.alloc (.cells (tab 41 f) 136)) := (Below.refl _ _).alloc (Nat.le_refl _) _
  have hJ1 := hJ _ _ _ hpre (hb.mono hsz)
  have hs1 : B0 ≤ (W.alloc (.cells (tab 41 f) 136)).heap.size := by rw [World.size_alloc]; omega
  have hN1 := Lib.hid (hN.below hb)
  have Hh1 : Hid (Held B0 Bl W (W.alloc (.cells (tab 41 f) 136))) := Lib.hid (Held.of_below hb)
  have hr9 := Row.new W 136 (tab 41 f)
  have hy := (hN.yl.later hb).cell 0
  have hrl := hm.later hb
  clear hb hm hml em hpre hN
  go_enter Try.func73, Try.ntmps73
  go_upto_region 2 with fail
  generalize W.heap.size = b9 at *
  generalize W.alloc (.cells (tab 41 f) 136) = W1 at *
  obtain ⟨fn, tmps, assign, body, hyl, hR⟩ := hY pre (lf, f) suf W1 hxs hJ1 hs1
  have hyl' : (Instr.yield l #[.agg (larr lf), .agg (tab 41 f)]).run Try.prog W1 = .ok (.round l fn tmps assign body) W1 := hyl
  clear hyl hJ1
  refine wpIn_wide (n := n).1 ?_
  gi_wp2_with (first
    | refine wpListIn_load_row rfl 136 (.tmp 9) rfl b9 rfl 136 (tab 41 f) (0, 0) _ hr9 under83 rfl (by rw [size83, tab_size]) ?_
    | refine wpListIn_load_row rfl 112 (.tmp 4) rfl Bl rfl 112 (larr lf) (0, 0) _ hrl under81 rfl (by rw [size81]; rfl) ?_)
  refine hR.mono ?_
  rintro e W3 ⟨rfl, hJ3, hk3⟩
  clear hyl' hy hr9 hrl
  gi_wp2
  go_wp2
  go_ret
  have hh : Held B0 Bl W W3 := Hh1.out.trans (Held.of_stays hk3)
  refine ⟨rfl, hJ3, ?_, hh⟩
  obtain ⟨m, hm, hj⟩ := hN1.out.ln
  exact ⟨hN1.out.yl.same (hk3.same _ (.inr hL.y) hN1.out.yl.lt), ⟨m, hm.same (hk3.same _ (.inr hL.l) hm.lt), hj⟩, hN1.out.st.same (hk3.same _ (.inr hL.s) hN1.out.st.lt), hN1.out.nx.same (hk3.same _ (.inr hL.x) hN1.out.nx.lt)⟩

theorem under103 : Try.prog.underlying 143 = some (.array 4 142) := by kernel_rfl
set_option maxRecDepth 5000 in
set_option maxHeartbeats 1000000 in
theorem next_all (hY : Rounds n l K B0 xs J) (hJ : Shut B0 J) (hL : Lies B0 By Bl Bs Bx) (hg : ∀ i len, i < 4 → len ≤ 13 → sumN 11 (suitRow hv i len) ≤ 20160) : ∀ d i, i + d = 4 → ∀ rest, rest ≤ 13 → ∀ lf f, Okf f i → ∀ pre suf W, xs = pre ++ (cells hv d rest lf f ++ suf) → J pre W → B0 ≤ W.heap.size → NxW By Bl Bs Bx l hv W i lf →
    Calls Try.prog 73 #[.int .i64 (i : Int), .int .i64 (rest : Int), .agg (tab 41 f), .pointer (some ⟨By, 0, none⟩), .pointer (some ⟨Bl, 0, none⟩), .pointer (some ⟨Bs, 0, none⟩), .pointer (some ⟨Bx, 0, none⟩)] W (NxPost B0 By Bl Bs Bx l hv J i lf (pre ++ cells hv d rest lf f) W) := by
  intro d
  induction d with
  | zero =>
    intro i hi rest hr lf f hf pre suf W hxs hp hsz hN
    obtain rfl : i = 4 := by omega
    exact next0 hY hJ hL rest lf f pre suf W hxs hp hsz hN
  | succ d ih =>
    intro i hi rest hr lf f hf pre suf W hxs hp hsz hN
    have hi4 : i < 4 := by omega
    have hid : 3 - d = i := by omega
    have hb : Below W.heap.size W (W.alloc (.cells (tab 41 f) 136)) := (Below.refl _ _).alloc (Nat.le_refl _) _
    have hJ1 := hJ _ _ _ hp (hb.mono hsz)
    have hs1 : B0 ≤ (W.alloc (.cells (tab 41 f) 136)).heap.size := by rw [World.size_alloc]; omega
    have hBlW : Bl ≠ W.heap.size := by have := hN.ln; obtain ⟨m, hm, -⟩ := this; have := hm.lt; omega
    have hN1 := hN.below hb
    have hr9 := Row.new W 136 (tab 41 f)
    have hH0 : Held B0 Bl W (W.alloc (.cells (tab 41 f) 136)) := Held.of_below hb
    obtain ⟨lo, HLo⟩ : ∃ lo, Hid (least d rest = lo) := ⟨_, Lib.hid rfl⟩
    have hlo : lo ≤ rest := by rw [← HLo.out]; unfold least; split <;> omega
    have HX := Lib.hid hxs
    have HI := Lib.hid ih
    have HOk := Lib.hid hf
    have Hid3 := Lib.hid hid
    have HGG := Lib.hid hg
    have HY := Lib.hid hY
    have HJ := Lib.hid hJ
    clear hb hxs ih hf hid hg hp hN hY hJ
    have hi4I : (i : Int) < 4 := by omega
    have e4 : ((i : Int) == 4) = false := by rw [beq_eq_false_iff_ne]; omega
    have hE : (((i : Int) == 3) = true ∧ Hid (lo = rest)) ∨ (((i : Int) == 3) = false ∧ Hid (lo = 0)) := by
      by_cases h : d = 0
      · exact .inl ⟨by rw [beq_iff_eq]; omega, Lib.hid (by rw [← HLo.out]; unfold least; rw [if_pos h])⟩
      · exact .inr ⟨by rw [beq_eq_false_iff_ne]; omega, Lib.hid (by rw [← HLo.out]; unfold least; rw [if_neg h])⟩
    rcases hE with ⟨e3, He⟩ | ⟨e3, He⟩
    all_goals
      go_enter Try.func73, Try.ntmps73
      go_upto_region 7 with fail
    all_goals
      generalize hb9 : W.heap.size = b9 at *
      replace hb9 : Hid (W.heap.size = b9) := Lib.hid hb9
      generalize W.alloc (.cells (tab 41 f) 136) = W1 at *
      go_loopw [12] (fun v wr => ∃ len, lo ≤ len ∧ len ≤ rest + 1 ∧ v = .int .i64 (len : Int) ∧ J (pre ++ cellsTo hv d rest lf f (len - lo)) wr ∧ B0 ≤ wr.heap.size ∧ NxW By Bl Bs Bx l hv wr i lf ∧ Held B0 Bl W wr ∧ Row wr b9 136 (tab 41 f)) (fun v _ => rest + 1 - (intOf v).toNat)
      case atStart => exact ⟨lo, Nat.le_refl _, by omega, by rw [He.out] <;> rfl, by rw [Nat.sub_self]; simpa [cellsTo, listTo] using hJ1, hs1, hN1, hH0, hr9⟩
      case round =>
        obtain ⟨len, hle1, hle2, rfl, hJr, hszr, hNr, hHr, hr9r⟩ := hrel
        by_cases hlt : len ≤ rest
        · have hlen14 : (len : Int) < 14 := by omega
          have hmin : min (rest : Int) 13 = (rest : Int) := by omega
          go_wp2_with fail
          refine wp_region_reliesS (FS wr [some (.agg (tab 41 f)), some (.int .i64 (i : Int)), some (.int .i64 (len : Int)), some (.pointer (some ⟨Bs, i * 154, none⟩)), some (.pointer (some ⟨Bs, i * 154 + len * 11, none⟩)), some (.agg (tab 11 (suitRow hv i len))), some (.tuple #[.agg (tab 41 (jTo f (suitRow hv i len) 41)), .bool (sTo f (suitRow hv i len) 41)]), some (.tuple #[.agg (tab 41 (jTo f (suitRow hv i len) 41)), .bool (sTo f (suitRow hv i len) 41)]), some (.agg (tab 41 (jTo f (suitRow hv i len) 41))), some (.bool (sTo f (suitRow hv i len) 41)), none, some (undef), some (.bool (sTo f (suitRow hv i len) 41))] [⟨10, 11, 136, tab 41 fun _ => 0, tab 41 (jTo f (suitRow hv i len) 41)⟩]) (by kernel_rfl) (by kernel_rfl) (by kernel_rfl) (by kernel_rfl) FS.start ?obls ?fini
          case obls =>
            refine ⟨?_, ?_, ?_, ?_, ?_, ?_, ?_, ?_, ?_, ?_, ?_, ?_, ?_, trivial⟩
            · -- 0
              intro ρ fd w' hF hfi hw hcl hf
              have f9 : ρ (.tmp 9) = .pointer (some ⟨b9, 0, none⟩) := hf.1 9 (by simp [Op.operands])
              have hr := hr9r.later (hF.below)
              exact ok_value (exec_load_row 136 (.tmp 9) rfl b9 f9 hr under83 rfl (by rw [size83, tab_size])) (hF.step 0 (.agg (tab 41 f)) rfl (by simp) (Below.refl _ _))
            · -- 1
              intro ρ fd w' hF hfi hw hcl hf
              have f0 : ρ (.tmp 0) = .int .i64 (i : Int) := hf.1 0 (by simp [Op.operands])
              exact ok_value (v := .int .i64 (i : Int)) (w' := w') (by simp [execOp, f0, go_sem]) (hF.step 1 (.int .i64 (i : Int)) rfl (by simp) (Below.refl _ _))
            · -- 2
              intro ρ fd w' hF hfi hw hcl hf
              have f12 : ρ (.tmp 12) = .int .i64 (len : Int) := hf.1 12 (by simp [Op.operands])
              exact ok_value (v := .int .i64 (len : Int)) (w' := w') (by simp [execOp, f12, go_sem]) (hF.step 2 (.int .i64 (len : Int)) rfl (by simp) (Below.refl _ _))
            · -- 3
              intro ρ fd w' hF hfi hw hcl hf
              have f5 : ρ (.tmp 5) = .pointer (some ⟨Bs, 0, none⟩) := hf.1 5 (by simp [Op.operands])
              have f33 : ρ (.tmp 33) = .int .i64 (i : Int) := hF.val (i := 1) rfl (by simp) (hf.1 33 (by simp [Op.operands]))
              exact ok_value (v := .pointer (some ⟨Bs, i * 154, none⟩)) (w' := w') (by simp [execOp, f5, f33, hi4I, go_sem]) (hF.step 3 (.pointer (some ⟨Bs, i * 154, none⟩)) rfl (by simp) (Below.refl _ _))
            · -- 4
              intro ρ fd w' hF hfi hw hcl hf
              have f35 : ρ (.tmp 35) = .pointer (some ⟨Bs, i * 154, none⟩) := hF.val (i := 3) rfl (by simp) (hf.1 35 (by simp [Op.operands]))
              have f34 : ρ (.tmp 34) = .int .i64 (len : Int) := hF.val (i := 2) rfl (by simp) (hf.1 34 (by simp [Op.operands]))
              exact ok_value (v := .pointer (some ⟨Bs, i * 154 + len * 11, none⟩)) (w' := w') (by simp [execOp, f35, f34, hlen14, go_sem]) (hF.step 4 (.pointer (some ⟨Bs, i * 154 + len * 11, none⟩)) rfl (by simp) (Below.refl _ _))
            · -- 5
              intro ρ fd w' hF hfi hw hcl hf
              have f36 : ρ (.tmp 36) = .pointer (some ⟨Bs, i * 154 + len * 11, none⟩) := hF.val (i := 4) rfl (by simp) (hf.1 36 (by simp [Op.operands]))
              have hr := hNr.st.later (hF.below)
              exact ok_value (exec_load_part 120 (.tmp 36) rfl Bs (i * 154 + len * 11) 11 f36 hr (by omega) under100 rfl size100) (hF.step 5 (.agg (tab 11 (suitRow hv i len))) rfl (by simp) (Below.refl _ _))
            · -- 6
              intro ρ fd w' hF hfi hw hcl hf
              have f32 : ρ (.tmp 32) = .agg (tab 41 f) := hF.val (i := 0) rfl (by simp) (hf.1 32 (by simp [Op.operands, Call.operands]))
              have f37 : ρ (.tmp 37) = .agg (tab 11 (suitRow hv i len)) := hF.val (i := 5) rfl (by simp) (hf.1 37 (by simp [Op.operands, Call.operands]))
              exact ok_call (args := #[.agg (tab 41 f), .agg (tab 11 (suitRow hv i len))]) (by simp [execOp, f32, f37, hf.2.2.2, go_sem]) ((ag_joined f (suitRow hv i len) (fun p q _ hq h1 _ => HOk.out.room hi4 p q hq h1) (HOk.out.small hi4 (HGG.out i len hi4 (by omega))) w').mono fun e w2 h => ⟨_, h.1, hF.step 6 (.tuple #[.agg (tab 41 (jTo f (suitRow hv i len) 41)), .bool (sTo f (suitRow hv i len) 41)]) rfl (by simp) h.2⟩)
            · -- 7
              intro ρ fd w' hF hfi hw hcl hf
              have f38 : ρ (.tmp 38) = .tuple #[.agg (tab 41 (jTo f (suitRow hv i len) 41)), .bool (sTo f (suitRow hv i len) 41)] := hF.val (i := 6) rfl (by simp) (hf.1 38 (by simp [Op.operands]))
              exact ok_value (v := .tuple #[.agg (tab 41 (jTo f (suitRow hv i len) 41)), .bool (sTo f (suitRow hv i len) 41)]) (w' := w') (by simp [execOp, f38, go_sem]) (hF.step 7 (.tuple #[.agg (tab 41 (jTo f (suitRow hv i len) 41)), .bool (sTo f (suitRow hv i len) 41)]) rfl (by simp) (Below.refl _ _))
            · -- 8
              intro ρ fd w' hF hfi hw hcl hf
              have f31 : ρ (.tmp 31) = .tuple #[.agg (tab 41 (jTo f (suitRow hv i len) 41)), .bool (sTo f (suitRow hv i len) 41)] := hF.val (i := 7) rfl (by simp) (hf.1 31 (by simp [Op.operands]))
              exact ok_value (v := .agg (tab 41 (jTo f (suitRow hv i len) 41))) (w' := w') (by simp [execOp, f31, go_sem]) (hF.step 8 (.agg (tab 41 (jTo f (suitRow hv i len) 41))) rfl (by simp) (Below.refl _ _))
            · -- 9
              intro ρ fd w' hF hfi hw hcl hf
              have f31 : ρ (.tmp 31) = .tuple #[.agg (tab 41 (jTo f (suitRow hv i len) 41)), .bool (sTo f (suitRow hv i len) 41)] := hF.val (i := 7) rfl (by simp) (hf.1 31 (by simp [Op.operands]))
              exact ok_value (v := .bool (sTo f (suitRow hv i len) 41)) (w' := w') (by simp [execOp, f31, go_sem]) (hF.step 9 (.bool (sTo f (suitRow hv i len) 41)) rfl (by simp) (Below.refl _ _))
            · -- 10
              intro ρ fd w' hF hfi hw hcl hf
              have n10 : fd 11 = none := none_fs hcl hfi (by decide)
              exact ok_value (exec_alloc 136 rfl zero83) (hF.alloc (by constructor <;> simp) ⟨10, 11, 136, tab 41 fun _ => 0, tab 41 (jTo f (suitRow hv i len) 41)⟩ (by simp) n10)
            · -- 11
              intro ρ fd w' hF hfi hw hcl hf
              have f13 : fd 10 = some (ρ (.tmp 13)) := hf.1 13 (by simp [Op.operands])
              have f39 : ρ (.tmp 39) = .agg (tab 41 (jTo f (suitRow hv i len) 41)) := hF.val (i := 8) rfl (by simp) (hf.1 39 (by simp [Op.operands]))
              obtain ⟨b, hb, -, hr⟩ := hF.row ⟨10, 11, 136, tab 41 fun _ => 0, tab 41 (jTo f (suitRow hv i len) 41)⟩ (by simp) hfi f13
              rw [hb] at f13
              exact ok_skip_fs (exec_store_row 136 (.tmp 13) (.tmp 39) rfl b (tab 41 (jTo f (suitRow hv i len) 41)) hb f39 hr (by rw [size83, tab_size]) (by simp) (tab_one _ _)) (hF.store (by constructor <;> simp) ⟨10, 11, 136, tab 41 fun _ => 0, tab 41 (jTo f (suitRow hv i len) 41)⟩ (by simp) rfl f13)
            · -- 12
              intro ρ fd w' hF hfi hw hcl hf
              have f40 : ρ (.tmp 40) = .bool (sTo f (suitRow hv i len) 41) := hF.val (i := 9) rfl (by simp) (hf.1 40 (by simp [Op.operands]))
              exact ok_value (v := .bool (sTo f (suitRow hv i len) 41)) (w' := w') (by simp [execOp, f40, go_sem]) (hF.step 12 (.bool (sTo f (suitRow hv i len) 41)) rfl (by simp) (Below.refl _ _))
          case fini =>
            intro vs w5 hlen hF
            have hl0 : vs.length = 13 := hlen
            clear hlen
            obtain ⟨v0, t0, rfl, hl1⟩ := uncons_fs hl0
            clear hl0
            obtain ⟨v1, t1, rfl, hl2⟩ := uncons_fs hl1
            clear hl1
            obtain ⟨v2, t2, rfl, hl3⟩ := uncons_fs hl2
            clear hl2
            obtain ⟨v3, t3, rfl, hl4⟩ := uncons_fs hl3
            clear hl3
            obtain ⟨v4, t4, rfl, hl5⟩ := uncons_fs hl4
            clear hl4
            obtain ⟨v5, t5, rfl, hl6⟩ := uncons_fs hl5
            clear hl5
            obtain ⟨v6, t6, rfl, hl7⟩ := uncons_fs hl6
            clear hl6
            obtain ⟨v7, t7, rfl, hl8⟩ := uncons_fs hl7
            clear hl7
            obtain ⟨v8, t8, rfl, hl9⟩ := uncons_fs hl8
            clear hl8
            obtain ⟨v9, t9, rfl, hl10⟩ := uncons_fs hl9
            clear hl9
            obtain ⟨v10, t10, rfl, hl11⟩ := uncons_fs hl10
            clear hl10
            obtain ⟨v11, t11, rfl, hl12⟩ := uncons_fs hl11
            clear hl11
            obtain ⟨v12, t12, rfl, hl13⟩ := uncons_fs hl12
            clear hl12
            obtain rfl := List.eq_nil_of_length_eq_zero hl13
            clear hl13
            obtain ⟨b10, rfl, hB10, hR10⟩ := hF.rows ⟨10, 11, 136, tab 41 fun _ => 0, tab 41 (jTo f (suitRow hv i len) 41)⟩ (by simp) v10 rfl
            replace hR10 : Row w5 b10 136 (tab 41 (jTo f (suitRow hv i len) 41)) := hR10
            obtain rfl := hF.val (i := 0) (v := v0) rfl (by simp) rfl
            obtain rfl := hF.val (i := 1) (v := v1) rfl (by simp) rfl
            obtain rfl := hF.val (i := 2) (v := v2) rfl (by simp) rfl
            obtain rfl := hF.val (i := 3) (v := v3) rfl (by simp) rfl
            obtain rfl := hF.val (i := 4) (v := v4) rfl (by simp) rfl
            obtain rfl := hF.val (i := 5) (v := v5) rfl (by simp) rfl
            obtain rfl := hF.val (i := 6) (v := v6) rfl (by simp) rfl
            obtain rfl := hF.val (i := 7) (v := v7) rfl (by simp) rfl
            obtain rfl := hF.val (i := 8) (v := v8) rfl (by simp) rfl
            obtain rfl := hF.val (i := 9) (v := v9) rfl (by simp) rfl
            obtain rfl := hF.val (i := 11) (v := v11) rfl (by simp) rfl
            obtain rfl := hF.val (i := 12) (v := v12) rfl (by simp) rfl
            have hB5 := hF.below
            clear hF
            simp only [putAll, List.zip_cons_cons, List.zip_nil_right, List.foldl_cons, List.foldl_nil]
            simp only [Act.put, List.setIfInBounds_toArray, List.set_cons_succ, List.set_cons_zero]
            clear hlen14 hmin
            have hJ5 := HJ.out _ _ _ hJr (hB5.mono hszr)
            have hN5 := hNr.below hB5
            have hH5 := hHr.trans (Held.of_below hB5)
            have hr95 := hr9r.later hB5
            have hsz5 := Nat.le_trans hszr hB5.size
            obtain ⟨m, hm, hmj⟩ := hN5.ln
            have hb10 : b10 ≠ Bl := by obtain ⟨m', hm', -⟩ := hNr.ln; have := hm'.lt; omega
            have hcl : w5.cell? ⟨Bl, i, none⟩ = some (.int .i64 (m i : Int)) := by rw [hm.cell]; exact larr_get m i hi4
            have hfl := hm.frozen i
            obtain ⟨W6, HW6⟩ : ∃ W6, Hid (w5.setCell ⟨Bl, i, none⟩ (.int .i64 (len : Int)) = W6) := ⟨_, Lib.hid rfl⟩
            have hw6 := HW6.out
            have hJ6 : J (pre ++ cellsTo hv d rest lf f (len - lo)) W6 := by rw [← hw6]; exact HJ.out _ _ _ hJ5 ((Below.refl _ _).setCell hL.l _)
            have hN6 : NxW By Bl Bs Bx l hv W6 (i + 1) (upd lf i len) := by
              rw [← hw6]
              refine ⟨hN5.yl.other hL.yl, ⟨upd m i len, ?_, fun j hj => ?_⟩, hN5.st.other hL.sl, hN5.nx.other hL.xl⟩
              · have := hm.set i (.int .i64 (len : Int))
                rwa [larr_upd _ _ _ hi4] at this
              · unfold upd; by_cases e : j = i
                · rw [if_pos e, if_pos e]
                · rw [if_neg e, if_neg e]; exact hmj j (by omega)
            have hH6 : Held B0 Bl W W6 := by rw [← hw6]; exact hH5.trans (Held.set i _)
            have hR6 : Row W6 b10 136 (tab 41 (jTo f (suitRow hv i len) 41)) := by rw [← hw6]; exact hR10.other hb10
            have hr96 : Row W6 b9 136 (tab 41 f) := by rw [← hw6]; exact hr95.other (by omega)
            have hsz6 : B0 ≤ W6.heap.size := by rw [← hw6]; simpa [World.setCell] using hsz5
            have hnx6 := hN6.nx.cell 0
            clear hJ5 hN5 hH5 hr95 hsz5 hm hmj hb10 hB5 hR10 hB10 hNr hHr hr9r hJr hszr
            have HT : Hid (cellsTo hv d rest lf f (len + 1 - lo) = cellsTo hv d rest lf f (len - lo) ++ cellsAt hv d rest lf f len) := Lib.hid (by
              rw [show len + 1 - lo = (len - lo) + 1 by omega, cellsTo_succ, HLo.out, show lo + (len - lo) = len by omega])
            have HA : Hid (cellsAt hv d rest lf f len = if sTo f (suitRow hv i len) 41 then cells hv d (rest - len) (upd lf i len) (jTo f (suitRow hv i len) 41) else []) := Lib.hid (by unfold cellsAt; rw [Hid3.out])
            cases hS : sTo f (suitRow hv i len) 41
            · have HS := Lib.hid hS
              clear hS
              go_wp2_with fail
              refine ⟨⟨len + 1, by omega, by omega, by simp, ?_, hsz6, hN6.less, hH6, hr96⟩, by simp [intOf]; omega⟩
              rw [HT.out, HA.out, HS.out]
              simpa using hJ6
            · obtain ⟨suf2, hs2⟩ := cellsTo_part (hv := hv) (d := d) (rest := rest) (l := lf) (f := f) (c := len - lo) (by rw [HLo.out]; omega)
              have hcall := HI.out (i + 1) (by omega) (rest - len) (by omega) (upd lf i len) (jTo f (suitRow hv i len) 41) (HOk.out.step (HGG.out i len hi4 (by omega))) (pre ++ cellsTo hv d rest lf f (len - lo)) (suf2 ++ suf) W6
                (by rw [HX.out, hs2, HLo.out, show lo + (len - lo) = len by omega, HA.out, hS]; simp [List.append_assoc]) hJ6 hsz6 hN6
              rw [Int.natCast_sub hlt, show ((i + 1 : Nat) : Int) = (i : Int) + 1 by simp] at hcall
              have HC := Lib.hid hcall
              have HA2 : Hid (cellsAt hv d rest lf f len = cells hv d (rest - len) (upd lf i len) (jTo f (suitRow hv i len) 41)) := Lib.hid (HA.out.trans (by rw [hS]; rfl))
              clear HA
              have HH6 := Lib.hid hH6
              have Hr96 := Lib.hid hr96
              have Hbl9 : Hid (B0 ≤ b9 ∧ b9 ≠ Bl) := Lib.hid ⟨hsz, fun e => hBlW e.symm⟩
              rw [hS] at *
              clear hcall hs2 hJ6 hN6 hH6 hr96 hS
              go_wp2_with (first
                | refine wpList_load_row_g rfl 136 (.tmp 13) rfl b10 rfl 136 (tab 41 (jTo f (suitRow hv i len) 41)) (0, 0) _ hR6 under83 rfl (by rw [size83, tab_size]) ?_
                | (go_at_call 73; refine HC.out.mono ?_; rintro e w7 ⟨rfl, hJ7, hN7, hH7⟩))
              refine ⟨⟨len + 1, by omega, by omega, by simp, ?_, Nat.le_trans hsz6 hH7.size, hN7.less, HH6.out.trans hH7, hH7.row Hbl9.out.1 Hbl9.out.2 Hr96.out⟩, by simp [intOf]; omega⟩
              rw [HT.out, HA2.out, ← List.append_assoc]
              exact hJ7
        · obtain rfl : len = rest + 1 := by omega
          have hmin : min (rest : Int) 13 = (rest : Int) := by omega
          have HE : Hid (cells hv (d + 1) rest lf f = cellsTo hv d rest lf f (rest + 1 - lo)) := Lib.hid (by rw [cells_succ, HLo.out, show min rest 13 = rest by omega])
          go_wp2_with fail
          go_ret
          refine ⟨rfl, ?_, hNr, hHr⟩
          rw [HE.out]
          exact hJr
end
end Go.Proofs.Ytikdkhiehfccpaa
