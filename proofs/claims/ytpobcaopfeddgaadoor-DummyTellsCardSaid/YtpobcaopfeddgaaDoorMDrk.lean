/- DrK0, DrK, DrL, DrM0, DrM in one text. -/
import Derived.Test.YtpobcaopfeddgaaDoorMDrh
import Derived.Test.YtpobcaopfeddgaaDoorDummyMakes

/- Plain facts for the reference's Line; slices that outlive an append to another one. -/
namespace Go.Proofs.YtpobcaopfeddgaaDoor
open Go.RowKit Go.Shelf Go.Sort Go.Maps Go.WideMaps

theorem Byt.grown' {W W' : World} {a : Option Addr} {len : Nat} {zs : List Nat} {row : Option Nat} (h : Byt W a len zs) (hg : W.grownBy W' row) (hne : 0 < len → ∀ ad, a = some ad → row ≠ some ad.block) : Byt W' a len zs := by
  refine ⟨h.length, h.small, h.byte, ?_⟩
  rcases h.cells with h | ⟨b, off, rfl, hb, hc⟩
  · exact .inl h
  · refine .inr ⟨b, off, rfl, Nat.lt_of_lt_of_le hb hg.size, fun i hi => ?_⟩
    rw [← hc i hi]
    exact World.cell?_of_block (hg.block b hb fun e => hne (by omega) _ rfl e.symm)
theorem cards_lt {t : Tb} {i j : Nat} {a b : Nat} (hi : t.cards[i]? = some a) (hj : t.cards[j]? = some b) (h : i < j) : a < b := by
  have hp : t.cards.Pairwise (· < ·) := List.Pairwise.filter _ List.pairwise_lt_range
  rw [List.pairwise_iff_getElem] at hp
  obtain ⟨h1, rfl⟩ := List.getElem?_eq_some_iff.1 hi
  obtain ⟨h2, rfl⟩ := List.getElem?_eq_some_iff.1 hj
  exact hp i j h1 h2 h
/-- the first card that makes as much as best play is the one that best play puts -/
theorem first_best {tr m : Nat} {t : Tb} (h : t.cards ≠ []) {i c : Nat} (hi : t.cards[i]? = some c) (hv : worth tr m t c = val tr (m + 1) t) (hno : ∀ j d, j < i → t.cards[j]? = some d → worth tr m t d ≠ val tr (m + 1) t) : c = t.best tr m := by
  obtain ⟨h1, -, h3⟩ := best_worth (tr := tr) (m := m) h
  obtain ⟨j, hj⟩ := List.getElem?_of_mem (best_mem (tr := tr) (m := m) h)
  rcases Nat.lt_trichotomy i j with e | e | e
  · exact absurd hv (h3 c (List.mem_of_getElem? hi) (cards_lt hi hj e))
  · subst e; exact Option.some.inj (hi.symm.trans hj)
  · exact absurd h1 (hno j _ e hj)
theorem some_best {tr m : Nat} {t : Tb} (h : t.cards ≠ []) : ¬ ∀ j d, j < t.cards.length → t.cards[j]? = some d → worth tr m t d ≠ val tr (m + 1) t := fun hno => by
  obtain ⟨h1, -, -⟩ := best_worth (tr := tr) (m := m) h
  obtain ⟨j, hj⟩ := List.getElem?_of_mem (best_mem (tr := tr) (m := m) h)
  exact hno j _ (List.getElem?_eq_some_iff.1 hj).1 hj h1
/-- the own block of a slice, ahead of what is made later -/
theorem own_lt {w : World} {base : Nat} {v : Value} {l : List Nat} (h : OwnU w base v l) {g : Nat} (hg : v.ownBlock = some g) : g < w.heap.size := (World.ownsRow.lt h.2 g hg).2
end Go.Proofs.YtpobcaopfeddgaaDoor

/- The reference of chapter 15 over this seat's program: Line. -/
namespace Go.Proofs.YtpobcaopfeddgaaDoor
open Go.RowKit Go.Shelf Go.Sort Go.Maps Go.WideMaps

theorem but_setRow (B g : Nat) (W : World) (cs : Array Value) : But B g W (W.setRow g cs) :=
  ⟨rfl, rfl, rfl, Nat.le_of_eq (size_setRow _ _ _).symm, fun _ _ hne => setRow_other _ _ _ _ hne⟩
/-- two slices that own elements of different types own different blocks -/
theorem owns_ne {α β : Type} {e1 : α → List Value} {e2 : β → List Value} {m1 m2 : Nat} {T1 T2 : TypeId} {W : World} {base1 base2 : Nat} {v1 v2 : Value} {l1 : List α} {l2 : List β} (h1 : Owns e1 m1 T1 W base1 v1 l1) (h2 : Owns e2 m2 T2 W base2 v2 l2) (hne : T1 ≠ T2) {g : Nat} (hg : v1.ownBlock = some g) : v2.ownBlock ≠ some g := by
  intro e
  rcases h1.2.2 with ⟨rfl, -⟩ | ⟨g1, cap1, cur1, rfl, -, hc1, -⟩
  · cases hg
  · rcases h2.2.2 with ⟨rfl, -⟩ | ⟨g2, cap2, cur2, rfl, -, hc2, -⟩
    · cases e
    · simp only [Value.ownBlock, Option.some.injEq] at hg e
      subst hg e
      have := Option.some.inj (hc1.symm.trans hc2)
      injection this with _ h _
      exact hne h
/-- while Solve and Choices are asked -/
def LnS3 (W0 : World) (L : List (Nat × Nat)) (vs _us : List Value) (W : World) : Prop := Below W0.heap.size W0 W ∧ match vs with
  | [] => True
  | [x] => OwnD W W0.heap.size x L
  | [x, y] => OwnD W W0.heap.size x L ∧ y = x
  | _ => False
theorem LnS3.below {W0 W W' : World} {L : List (Nat × Nat)} {vs us : List Value} (h : LnS3 W0 L vs us W) (hb : Below W.heap.size W W') : LnS3 W0 L vs us W' := by
  refine ⟨h.1.trans (hb.mono h.1.size), ?_⟩
  have h2 := h.2
  match vs, h2 with
  | [], _ => trivial
  | [x], h2 => exact Owns.below h2 hb
  | [x, y], h2 => exact ⟨Owns.below h2.1 hb, h2.2⟩
/-- while a card is played -/
def LnS9 (W0 : World) (b1 : Nat) (PA : Array Value) (tr won : Nat) (u : Tb) (vs _us : List Value) (W : World) : Prop := But W0.heap.size b1 W0 W ∧ match vs with
  | [] => Row W b1 50 PA
  | [x] => Row W b1 50 PA ∧ ∃ v, x = .tuple #[.agg (posA u.h tr u.ld v), .int .i64 (won : Int)] ∧ OwnU W W0.heap.size v u.cs
  | [_, y] => Row W b1 50 PA ∧ ∃ v, y = .tuple #[.agg (posA u.h tr u.ld v), .int .i64 (won : Int)] ∧ OwnU W W0.heap.size v u.cs
  | [_, y, z] => Row W b1 50 PA ∧ ∃ v, y = .tuple #[.agg (posA u.h tr u.ld v), .int .i64 (won : Int)] ∧ z = .agg (posA u.h tr u.ld v) ∧ OwnU W W0.heap.size v u.cs
  | [_, y, _, _] => ∃ v, y = .tuple #[.agg (posA u.h tr u.ld v), .int .i64 (won : Int)] ∧ Row W b1 50 (posA u.h tr u.ld v) ∧ OwnU W W0.heap.size v u.cs
  | _ => False
theorem LnS9.early {W0 W : World} {b1 tr won : Nat} {PA : Array Value} {u : Tb} {vs us : List Value} (h : LnS9 W0 b1 PA tr won u vs us W) (hl : vs.length ≤ 3) : Row W b1 50 PA := by
  have h2 := h.2
  match vs, h2 with
  | [], h2 => exact h2
  | [x], h2 => exact h2.1
  | [x, y], h2 => exact h2.1
  | [x, y, z], h2 => exact h2.1
theorem LnS9.tup {W0 W : World} {b1 tr won : Nat} {PA : Array Value} {u : Tb} {vs us : List Value} {y : Value} (h : LnS9 W0 b1 PA tr won u vs us W) (hy : vs[1]? = some y) : ∃ v, y = .tuple #[.agg (posA u.h tr u.ld v), .int .i64 (won : Int)] := by
  have h2 := h.2
  match vs, h2, hy with
  | [x, y'], h2, hy => obtain rfl := Option.some.inj hy; exact ⟨_, h2.2.choose_spec.1⟩
  | [x, y', z], h2, hy => obtain rfl := Option.some.inj hy; exact ⟨_, h2.2.choose_spec.1⟩
  | [x, y', z, u'], h2, hy => obtain rfl := Option.some.inj hy; exact ⟨_, h2.choose_spec.1⟩
/-- between the rounds of the reference's Line: m cards are left, P is the line so far -/
structure LK (tr b1 base : Nat) (L : List Nat) (m q : Nat) (t : Tb) (a : Option Addr) (cap : Nat) (pv : Value) (P : List Nat) (w W : World) : Prop where
  row : Row W b1 50 (posA t.h tr t.ld (.slice a t.cs.length cap))
  byt : Byt W a t.cs.length t.cs
  ne : 0 < t.cs.length → ∀ ad, a = some ad → ad.block ≠ b1 ∧ pv.ownBlock ≠ some ad.block
  pos : PosT q t
  mq : m + t.cs.length = 4 * q
  own : OwnU W base pv P
  sum : P ++ lineV tr m t = L
  pl : P.length + m ≤ 100
  bl : Below w.heap.size w W
set_option maxHeartbeats 4000000 in
set_option maxRecDepth 10000 in
theorem dr_Line (tr : Nat) (htr : tr < 256) (m q : Nat) (t : Tb) (H : PosT q t) (hm : m + t.cs.length = 4 * q) (a : Option Addr) (cap : Nat) (w : World) (hz : Byt w a t.cs.length t.cs) (hlt : 0 < t.cs.length → ∀ ad, a = some ad → ad.block < w.heap.size) :
    Calls Tryd.prog 31 #[.agg (posA t.h tr t.ld (.slice a t.cs.length cap))] w fun e w' => ∃ v, e = .returned v ∧ OwnU w' w.heap.size v (lineV tr m t) ∧ Below w.heap.size w w' := by
  have hb1 := (Below.refl w.heap.size w).alloc (Nat.le_refl _) (.cells (posA t.h tr t.ld (.slice a t.cs.length cap)) 50)
  have HI := Lib.hid (show LK tr w.heap.size w.heap.size (lineV tr m t) m q t a cap (.slice none 0 0) [] w _ from ⟨Row.new w 50 _, hz.below (Nat.le_refl _) hb1, fun h ad e => ⟨by have := hlt h ad e; omega, by simp [Value.ownBlock]⟩, H, hm, Owns.nil encU_len _ _, rfl, by have := H.q6; simp; omega, hb1⟩)
  obtain ⟨L, hL⟩ : ∃ L, lineV tr m t = L := ⟨_, rfl⟩
  rw [hL] at HI ⊢
  clear hL hz hlt hm H hb1
  go_enter Tryd.func31, Tryd.ntmps31
  go_upto_region 2 with fail
  generalize w.alloc (.cells (posA t.h tr t.ld (.slice a t.cs.length cap)) 50) = w1 at *
  obtain ⟨b1, hb1⟩ : ∃ b, w.heap.size = b := ⟨_, rfl⟩
  have HBS := Lib.hid hb1
  rw [hb1] at HI ⊢
  clear hb1
  go_loopg [3] m (fun g pv wr => ∃ (q : Nat) (t : Tb) (a : Option Addr) (cap : Nat) (v : Value) (P : List Nat), pv = v ∧ LK tr b1 b1 L g q t a cap v P w wr)
  case atStart => exact ⟨q, t, a, cap, _, [], rfl, HI.out⟩
  case round =>
    obtain ⟨q, t, a, cap, pv, P, hpv, hI⟩ := hrel
    rw [hpv]
    clear hpv
    have HI2 := Lib.hid hI
    have HRW := Lib.hid hI.row
    have HBY := Lib.hid hI.byt
    have hl4 := hI.pos.ok.pk.2
    have hq6 := hI.pos.q6
    have HTU := Lib.hid (fun W => dr_Turn t.h tr t.ld t.cs.length a cap (by have := hI.pos.ok.ld; omega) (by omega) W)
    have hturn : (t.ld + t.cs.length) % 4 = t.turn := rfl
    rw [hturn] at HTU
    obtain ⟨s, hs⟩ : ∃ s, t.turn = s := ⟨_, rfl⟩
    have hs4 : s < 4 := by rw [← hs]; exact t.turn_lt
    have hs4i : (s : Int) < 4 := by omega
    have HSZ := Lib.hid (fun W => dr_size (t.h s) (hI.pos.ok.w64 s) W)
    have hpop : pop (t.h s) = q := by rw [← hs]; exact hI.pos.evn.turn hl4
    rw [hpop] at HSZ
    rw [hs] at HTU
    have HMQ := Lib.hid hI.mq
    have HPOS := Lib.hid hI.pos
    have HPC : Hid ((posA t.h tr t.ld (.slice a t.cs.length cap))[s]? = some (.int .u64 (t.h s : Int))) := Lib.hid (posA_h _ _ _ _ hs4)
    have HSO := Lib.hid (fun W hzW => dr_Solve tr htr gk q t hI.pos hI.mq a cap W hzW)
    have HCH := Lib.hid (fun W hzW => dr_Choices tr htr gk q t hI.pos hI.mq a cap W hzW)
    have HAF0 := Lib.hid (fun c hl W hzW => dr_After t hI.pos.ok hI.pos.uniq tr c htr hl a cap W hzW)
    obtain ⟨PA, hPA⟩ : ∃ A, posA t.h tr t.ld (.slice a t.cs.length cap) = A := ⟨_, rfl⟩
    have HPZ : Hid (PA.size = 7) := Lib.hid (by rw [← hPA]; rfl)
    rw [hPA] at HRW HTU HPC HSO HCH HAF0
    clear hturn hs hpop hPA
    go_wp2_with (refine wpList_load_row rfl 50 (.tmp 1) rfl b1 rfl 50 PA (0, 0) _ HRW.out Tryd.underlying50 rfl (by rw [HPZ.out]; exact size_rpos) ?_)
    refine (HTU.out _).mono ?_
    rintro e w2 ⟨rfl, hb2⟩
    have HR2 := Lib.hid (HRW.out.later hb2)
    have HB2 := Lib.hid hb2
    clear hb2
    have cs := (HR2.out.cell s).trans HPC.out
    have HI2B := Lib.hid HI2.out.bl
    rcases Nat.eq_zero_or_pos gk with hg0 | hgp
    · obtain rfl : q = 0 := by have := HMQ.out; omega
      have HPL : Hid (L = P) := Lib.hid (by have := HI2.out.sum; rw [hg0] at this; rw [← this]; exact List.append_nil _)
      clear hg0 cs hI
      have cs := (HR2.out.cell s).trans HPC.out
      go_wp2_with ((with_reducible refine (HSZ.out _).mono ?_); rintro e w3 ⟨rfl, rfl⟩)
      go_ret
      refine ⟨_, rfl, ?_, HI2.out.bl.trans (HB2.out.mono HI2.out.bl.size)⟩
      rw [HPL.out, HBS.out]
      exact HI2.out.own.below HB2.out
    · obtain ⟨k, rfl⟩ : ∃ k, gk = k + 1 := ⟨gk - 1, by omega⟩
      have hq0 : 0 < q := by have := HMQ.out; omega
      have hqi : (0 : Int) < (q : Int) := by omega
      have HCN := Lib.hid (cards_some HPOS.out.ok HPOS.out.evn hq0)
      have HCH2 : Hid (∀ W, Byt W a t.cs.length t.cs → Calls Tryd.prog 30 #[.agg PA] W fun e w' => ∃ v, e = .returned v ∧ OwnD w' W.heap.size v (t.cards.map fun c => (c, worth tr k t c)) ∧ Below W.heap.size W w') := HCH
      have HOV := Lib.hid (val_le tr (k + 1) q t (by omega) HPOS.out.evn HMQ.out)
      obtain ⟨V, hV⟩ : ∃ V, val tr (k + 1) t = V := ⟨_, rfl⟩
      have HVV := Lib.hid hV
      rw [hV] at HSO HOV
      obtain ⟨CL, hCL⟩ : ∃ CL, (t.cards.map fun c => (c, worth tr k t c)) = CL := ⟨_, rfl⟩
      have HCL := Lib.hid hCL
      rw [hCL] at HCH2
      have HBY2 := Lib.hid (HBY.out.below (Nat.le_refl _) HB2.out)
      clear hgp hV hCL hq0 hI HCH
      go_wp2_with ((with_reducible refine (HSZ.out _).mono ?_); rintro e w3 ⟨rfl, rfl⟩)
      clear cs
      refine wp_region_reliesS (ChF [.agg PA, .int .i64 (V : Int), .agg PA, undef, .int .i64 (V : Int), undef] [3, 5] [] (LnS3 w2 CL)) (by kernel_rfl) (by kernel_rfl) (by kernel_rfl) (by kernel_rfl) (ChF.start ⟨(Below.refl _ _).drew, trivial⟩) ?obls ?fini
      case obls =>
        refine ⟨?_, ?_, ?_, ?_, ?_, ?_, trivial⟩
        · rintro ρ f W ⟨vs, us, hX⟩ hfi hw hcl hf
          have f1 : ρ (.tmp 1) = .pointer (some ⟨b1, 0, none⟩) := hf.1 1 (by simp [Op.operands])
          exact ok_value (exec_load_row 50 (.tmp 1) rfl b1 f1 (HR2.out.later hX.st.1) Tryd.underlying50 rfl (by rw [HPZ.out]; exact size_rpos)) (hX.pure 0 _ (by decide) (by decide) rfl hX.st)
        · rintro ρ f W ⟨vs, us, hX⟩ hfi hw hcl hf
          have f14 : ρ (.tmp 14) = .agg PA := hX.val 0 _ _ (by decide) (by decide) (hf.1 14 (by simp [Op.operands, Call.operands])) rfl
          refine ok_call (f := 29) (args := #[.agg PA]) (by simp [execOp, f14, hf.2.2.2, go_sem]) ((HSO.out W (HBY2.out.below (Nat.le_refl _) hX.st.1)).mono ?_)
          rintro e w5 ⟨rfl, hb5⟩
          exact ⟨_, rfl, hX.pure 1 _ (by decide) (by decide) rfl (hX.st.below hb5)⟩
        · rintro ρ f W ⟨vs, us, hX⟩ hfi hw hcl hf
          have f1 : ρ (.tmp 1) = .pointer (some ⟨b1, 0, none⟩) := hf.1 1 (by simp [Op.operands])
          exact ok_value (exec_load_row 50 (.tmp 1) rfl b1 f1 (HR2.out.later hX.st.1) Tryd.underlying50 rfl (by rw [HPZ.out]; exact size_rpos)) (hX.pure 2 _ (by decide) (by decide) rfl hX.st)
        · rintro ρ f W ⟨vs, us, hX⟩ hfi hw hcl hf
          have f16 : ρ (.tmp 16) = .agg PA := hX.val 2 _ _ (by decide) (by decide) (hf.1 16 (by simp [Op.operands, Call.operands])) rfl
          have hl := hX.le1 0 3 rfl hfi
          obtain rfl := list0 hl
          refine ok_call (f := 30) (args := #[.agg PA]) (by simp [execOp, f16, hf.2.2.2, go_sem]) ((HCH2.out W (HBY2.out.below (Nat.le_refl _) hX.st.1)).mono ?_)
          rintro e w5 ⟨v, rfl, hov, hb5⟩
          exact ⟨_, rfl, hX.step1 3 _ rfl (by decide) (by decide) ⟨hX.st.1.trans (hb5.mono hX.st.1.size), hov.mono hX.st.1.size⟩⟩
        · rintro ρ f W ⟨vs, us, hX⟩ hfi hw hcl hf
          have f15 : ρ (.tmp 15) = .int .i64 (V : Int) := hX.val 1 _ _ (by decide) (by decide) (hf.1 15 (by simp [Op.operands])) rfl
          exact ok_value (v := .int .i64 (V : Int)) (w' := W) (by simp [execOp, f15, go_sem]) (hX.pure 4 _ (by decide) (by decide) rfl hX.st)
        · rintro ρ f W ⟨vs, us, hX⟩ hfi hw hcl hf
          have g17 := hX.get1 0 3 rfl (hf.1 17 (by simp [Op.operands]))
          have hl := hX.le1 1 5 rfl hfi
          obtain hvs := list1 hl g17
          have hst := hX.st
          rw [hvs] at hst
          refine ok_value (v := ρ (.tmp 17)) (w' := W) (by simp [execOp]) (hX.step1 5 _ (by rw [hvs]; rfl) (by decide) (by decide) ?_)
          rw [hvs]
          exact ⟨hst.1, hst.2, rfl⟩
      case fini =>
        rintro us w4 hlen ⟨vs, us', hX⟩
        have hl0 : us.length = 6 := hlen
        match us, hl0 with
        | [u0, u1, u2, u3', u4', u5'], _ =>
          have hst := hX.st
          obtain ⟨x, hvs⟩ := list2 hX.l1 (hX.get1 1 5 rfl (v := u5') rfl)
          rw [hvs] at hst
          obtain ⟨hb4, hov, rfl⟩ := hst
          obtain rfl := hX.val 4 u4' _ (by decide) (by decide) rfl rfl
          have HB4 := Lib.hid hb4
          have HOL := Lib.hid hov
          obtain ⟨la, cl, rfl, hla⟩ := hov.slice
          clear hX hb4 hov hvs hlen
          simp only [putAll, List.zip_cons_cons, List.zip_nil_right, List.foldl_cons, List.foldl_nil]
          simp only [Act.put, List.setIfInBounds_toArray, List.set_cons_succ, List.set_cons_zero]
          have HCN2 : Hid (CL.length = t.cards.length ∧ CL ≠ [] ∧ CL.length ≤ 52 ∧ ∀ i c, t.cards[i]? = some c → CL[i]? = some (c, worth tr k t c)) := Lib.hid (by
            rw [← HCL.out]
            refine ⟨List.length_map _, by simpa using HCN.out, ?_, fun i c hc => by rw [List.getElem?_map, hc]; rfl⟩
            rw [List.length_map]
            exact Nat.le_trans (List.length_filter_le _ _) (by rw [List.length_range]; exact Nat.le_refl _))
          obtain ⟨gl, rfl⟩ := hla HCN2.out.2.1
          obtain ⟨nl, hnl⟩ : ∃ n, CL.length = n := ⟨_, rfl⟩
          have hnl52 : nl ≤ 52 := by rw [← hnl]; exact HCN2.out.2.2.1
          have HNL : Hid (nl = t.cards.length) := Lib.hid (by rw [← hnl]; exact HCN2.out.1)
          rw [hnl] at HOL ⊢
          clear hnl hla
          have HR4 := Lib.hid (HR2.out.later HB4.out)
          have HBY4 := Lib.hid (HBY2.out.below (Nat.le_refl _) HB4.out)
          have HOW4 := Lib.hid ((HI2.out.own.below HB2.out).below HB4.out)
          have HBW4 := Lib.hid ((HI2.out.bl.trans (HB2.out.mono HI2.out.bl.size)).trans (HB4.out.mono (Nat.le_trans HI2.out.bl.size HB2.out.size)))
          go_wp2_with fail
          go_loopg [3, 6] nl (fun g xv iv wx => ∃ i : Nat, g = nl - i ∧ i ≤ nl ∧ xv = pv ∧ iv = .int .i64 (i : Int) ∧ wx = w4 ∧ ∀ j d, j < i → t.cards[j]? = some d → worth tr k t d ≠ V)
          case atStart => exact ⟨0, rfl, Nat.zero_le _, rfl, rfl, rfl, fun j d h => by omega⟩
          case round =>
            obtain ⟨i, rfl, hi, hxv, rfl, hwx, hno⟩ := hrel
            rw [hwx, hxv]
            clear hwx hxv
            have HNO := Lib.hid hno
            clear hno
            by_cases hil : i < nl
            · obtain ⟨c, hc⟩ : ∃ c, t.cards[i]? = some c := ⟨_, List.getElem?_eq_getElem (by rw [← HNL.out]; exact hil)⟩
              have HC := Lib.hid hc
              have hcl := HCN2.out.2.2.2 i c hc
              obtain ⟨y, hy⟩ : ∃ y, worth tr k t c = y := ⟨_, rfl⟩
              rw [hy] at hcl
              have HY := Lib.hid hy
              have HC52 : Hid (c < 52) := Lib.hid ((mem_cards.1 (List.mem_of_getElem? hc)).1)
              have HCC : Hid (w4.cell? ⟨gl, i * 2, none⟩ = some (.int .u8 (c : Int))) := Lib.hid (HOL.out.cell i 0 (by decide) hcl)
              have cy : w4.cell? ⟨gl, i * 2 + 1, none⟩ = some (.int .i64 (y : Int)) := HOL.out.cell i 1 (by decide) hcl
              have HIL : Hid ((i : Int) < (nl : Int) ∧ i < nl) := Lib.hid ⟨by omega, hil⟩
              have hili : (i : Int) < (nl : Int) := by omega
              clear hc hcl hy
              by_cases hyV : y = V
              · have HBT : Hid (c = t.best tr k) := Lib.hid (first_best HCN.out HC.out (by rw [HY.out, HVV.out]; exact hyV) (fun j d hj hd => by rw [HVV.out]; exact HNO.out j d hj hd))
                have hyd : ((y : Int) == (V : Int)) = true := by simp; omega
                have HLG : Hid (t.legal c = true) := Lib.hid ((mem_cards.1 (List.mem_of_getElem? HC.out)).2)
                have hc256 : c < 256 := by have := HC52.out; omega
                have cc := HCC.out
                have ccA : (w4.alloc (.cells #[.int .u8 (c : Int)] 5)).cell? ⟨gl, i * 2, none⟩ = some (.int .u8 (c : Int)) := ((Below.refl w4.heap.size w4).alloc (Nat.le_refl _) (.cells #[.int .u8 (c : Int)] 5)).cell (p := ⟨gl, i * 2, none⟩) (block_lt_of_cell HCC.out) |>.trans HCC.out
                clear hyV
                have HSZ8 := Lib.hid (show b1 ≤ (w4.alloc (.cells #[.int .u8 (c : Int)] 5)).heap.size by rw [World.size_alloc]; have := HBW4.out.size; have := HBS.out; omega)
                have HPL := Lib.hid HI2.out.pl
                go_upto_region 9 with (at_builtin; refine appU rfl (.tmp 31) (.tmp 37) rfl b1 _ P [c] rfl (HOW4.out.alloc _) _ _ _ rfl (byt_new1 w4 c hc256) (by have := HPL.out; omega) HSZ8.out ?_)
                intro pv8 w8 ho8 hb8 hg8 hv8
                have HO8 := Lib.hid ho8
                have hrow8 : ∀ {b : Nat} {T' : TypeId} {cs : Array Value}, Row w4 b T' cs → T' ≠ 5 → Row w8 b T' cs := fun hr ht => (hr.alloc _).grown hg8 fun e => own_apart HOW4.out hr ht e.symm
                have HR8 := Lib.hid (hrow8 HR4.out (by decide))
                have HBY8 := Lib.hid ((HBY4.out.below (Nat.le_refl _) ((Below.refl w4.heap.size w4).alloc (Nat.le_refl _) (.cells #[.int .u8 (c : Int)] 5))).grown' hg8 (fun h ad e => (HI2.out.ne h ad e).2))
                have HGL : Hid (gl < w8.heap.size ∧ gl ≠ b1) := Lib.hid ⟨by
                    have h1 := block_lt_of_cell HCC.out
                    have h2 := hg8.size
                    rw [World.size_alloc] at h2
                    have h3 : gl < w4.heap.size := h1
                    omega, fun e => by
                    have := own_apart HOL.out HR4.out (by decide)
                    exact this (by rw [e]; rfl)⟩
                have HCC8 : Hid (w8.cell? ⟨gl, i * 2, none⟩ = some (.int .u8 (c : Int))) := Lib.hid ((World.cell?_of_block (a := ⟨gl, i * 2, none⟩) (hg8.block gl (by rw [World.size_alloc]; have : gl < w4.heap.size := block_lt_of_cell HCC.out; omega) (fun e => owns_ne HOL.out HOW4.out (by decide) (g := gl) rfl e.symm))).trans ccA)
                have HBW8 := Lib.hid ((HBW4.out.alloc HBW4.out.size (.cells #[.int .u8 (c : Int)] 5)).trans (by rw [HBS.out]; exact hb8))
                have HNB : Hid (0 < t.cs.length → ∀ ad, a = some ad → some b1 ≠ some ad.block) := Lib.hid fun h ad e e2 => (HI2.out.ne h ad e).1 (Option.some.inj e2).symm
                clear hg8 hb8 ho8 hrow8 hv8 cc ccA hyd cy
                obtain ⟨⟨u, won⟩, hu⟩ : ∃ u, t.put tr c = u := ⟨_, rfl⟩
                have HU := Lib.hid hu
                have HAF := Lib.hid (fun W hzW => HAF0.out c HLG.out W hzW)
                rw [hu] at HAF
                have hu6 : u.cs.length ≤ 3 ∧ ∀ i, u.cs.getD i 0 < 256 := by
                  have hok : TbOk u := by have := ok_put HPOS.out.ok (tr := tr) HC52.out; rw [hu] at this; exact this
                  exact ⟨Nat.le_of_lt_succ hok.pk.2, fun i => by have := hok.getD i; omega⟩
                have HU6 := Lib.hid hu6
                clear hu hu6
                have HCC := HCC8
                go_upto_region 9 with fail
                refine wp_region_reliesS (ChF [.agg PA, .slice (some ⟨gl, 0, none⟩) nl cl, .int .i64 (i : Int), .pointer (some ⟨gl, i * 2, none⟩), .pointer (some ⟨gl, i * 2, none⟩), .int .u8 (c : Int), .int .i64 (c : Int), undef, undef, undef, .int .i64 (won : Int), undef] [7, 8, 9, 11] [] (LnS9 w8 b1 PA tr won u)) (by kernel_rfl) (by kernel_rfl) (by kernel_rfl) (by kernel_rfl) (ChF.start ⟨But.of_below (Below.refl _ _).drew, HR8.out.later (Below.refl _ _).drew⟩) ?obls9 ?fini9
                case obls9 =>
                  refine ⟨?_, ?_, ?_, ?_, ?_, ?_, ?_, ?_, ?_, ?_, ?_, ?_, trivial⟩
                  · rintro ρ f W ⟨vs, us, hX⟩ hfi hw hcl hf
                    have f1 : ρ (.tmp 1) = .pointer (some ⟨b1, 0, none⟩) := hf.1 1 (by simp [Op.operands])
                    have hr1 : Row W b1 50 PA := hX.st.early (hX.le1 3 11 rfl (by
                      rcases h : f 11 with _ | v
                      · rfl
                      · have := hcl 11 (by rw [h]; rfl) 0 (by decide)
                        rw [hfi] at this; cases this))
                    exact ok_value (exec_load_row 50 (.tmp 1) rfl b1 f1 hr1 Tryd.underlying50 rfl (by rw [HPZ.out]; exact size_rpos)) (hX.pure 0 _ (by decide) (by decide) rfl hX.st)
                  · rintro ρ f W ⟨vs, us, hX⟩ hfi hw hcl hf
                    have f5 : ρ (.tmp 5) = .slice (some ⟨gl, 0, none⟩) nl cl := hf.1 5 (by simp [Op.operands])
                    exact ok_value (v := .slice (some ⟨gl, 0, none⟩) nl cl) (w' := W) (by simp [execOp, f5]) (hX.pure 1 _ (by decide) (by decide) rfl hX.st)
                  · rintro ρ f W ⟨vs, us, hX⟩ hfi hw hcl hf
                    have f6 : ρ (.tmp 6) = .int .i64 (i : Int) := hf.1 6 (by simp [Op.operands])
                    exact ok_value (v := .int .i64 (i : Int)) (w' := W) (by simp [execOp, f6]) (hX.pure 2 _ (by decide) (by decide) rfl hX.st)
                  · rintro ρ f W ⟨vs, us, hX⟩ hfi hw hcl hf
                    have f41 : ρ (.tmp 41) = .slice (some ⟨gl, 0, none⟩) nl cl := hX.val 1 _ _ (by decide) (by decide) (hf.1 41 (by simp [Op.operands])) rfl
                    have f42 : ρ (.tmp 42) = .int .i64 (i : Int) := hX.val 2 _ _ (by decide) (by decide) (hf.1 42 (by simp [Op.operands])) rfl
                    exact ok_value (v := .pointer (some ⟨gl, i * 2, none⟩)) (w' := W) (by simp [execOp, f41, f42, go_sem, HIL.out.1]) (hX.pure 3 _ (by decide) (by decide) rfl hX.st)
                  · rintro ρ f W ⟨vs, us, hX⟩ hfi hw hcl hf
                    have f43 : ρ (.tmp 43) = .pointer (some ⟨gl, i * 2, none⟩) := hX.val 3 _ _ (by decide) (by decide) (hf.1 43 (by simp [Op.operands])) rfl
                    exact ok_value (v := .pointer (some ⟨gl, i * 2, none⟩)) (w' := W) (by simp [execOp, f43, go_sem]) (hX.pure 4 _ (by decide) (by decide) rfl hX.st)
                  · rintro ρ f W ⟨vs, us, hX⟩ hfi hw hcl hf
                    have f44 : ρ (.tmp 44) = .pointer (some ⟨gl, i * 2, none⟩) := hX.val 4 _ _ (by decide) (by decide) (hf.1 44 (by simp [Op.operands])) rfl
                    have hcc : W.cell? ⟨gl, i * 2, none⟩ = some (.int .u8 (c : Int)) := (World.cell?_of_block (a := ⟨gl, i * 2, none⟩) (hX.st.1.same gl HGL.out.1 HGL.out.2)).trans HCC.out
                    exact ok_value (v := .int .u8 (c : Int)) (w' := W) (by simp [execOp, f44, go_sem, hcc]) (hX.pure 5 _ (by decide) (by decide) rfl hX.st)
                  · rintro ρ f W ⟨vs, us, hX⟩ hfi hw hcl hf
                    have f45 : ρ (.tmp 45) = .int .u8 (c : Int) := hX.val 5 _ _ (by decide) (by decide) (hf.1 45 (by simp [Op.operands])) rfl
                    have hw64 : IntKind.i64.wrap (c : Int) = (c : Int) := IntWalk.i64_in _ (by have := HC52.out; omega)
                    exact ok_value (v := .int .i64 (c : Int)) (w' := W) (by simp [execOp, f45, go_sem, hw64]) (hX.pure 6 _ (by decide) (by decide) rfl hX.st)
                  · rintro ρ f W ⟨vs, us, hX⟩ hfi hw hcl hf
                    have f40 : ρ (.tmp 40) = .agg PA := hX.val 0 _ _ (by decide) (by decide) (hf.1 40 (by simp [Op.operands, Call.operands])) rfl
                    have f46 : ρ (.tmp 46) = .int .i64 (c : Int) := hX.val 6 _ _ (by decide) (by decide) (hf.1 46 (by simp [Op.operands, Call.operands])) rfl
                    have hl := hX.le1 0 7 rfl hfi
                    obtain rfl := list0 hl
                    obtain ⟨hbt, hr1⟩ := hX.st
                    have hsz := hbt.size
                    refine ok_call (f := 33) (args := #[.agg PA, .int .i64 (c : Int)]) (by simp [execOp, f40, f46, hf.2.2.2, go_sem]) ((HAF.out W (HBY8.out.grown' (hbt.grown (Nat.le_refl _)) HNB.out)).mono ?_)
                    rintro e w5 ⟨v, rfl, hov, hb5⟩
                    exact ⟨_, rfl, hX.step1 7 _ rfl (by decide) (by decide) ⟨hbt.trans (But.of_below (hb5.mono hsz)), hr1.later hb5, v, rfl, hov.mono hsz⟩⟩
                  · rintro ρ f W ⟨vs, us, hX⟩ hfi hw hcl hf
                    have g47 := hX.get1 0 7 rfl (hf.1 47 (by simp [Op.operands]))
                    have hl := hX.le1 1 8 rfl hfi
                    have hvs := list1 hl g47
                    have hst := hX.st
                    rw [hvs] at hst
                    obtain ⟨hbt, hr1, v, hx, hov⟩ := hst
                    refine ok_value (v := ρ (.tmp 47)) (w' := W) (by simp [execOp]) (hX.step1 8 _ (by rw [hvs]; rfl) (by decide) (by decide) ?_)
                    rw [hvs]
                    exact ⟨hbt, hr1, v, hx, hov⟩
                  · rintro ρ f W ⟨vs, us, hX⟩ hfi hw hcl hf
                    have g39 := hX.get1 1 8 rfl (hf.1 39 (by simp [Op.operands]))
                    have hl := hX.le1 2 9 rfl hfi
                    obtain ⟨x, hvs⟩ := list2 hl g39
                    have hst := hX.st
                    rw [hvs] at hst
                    obtain ⟨hbt, hr1, v, hx, hov⟩ := hst
                    refine ok_value (v := .agg (posA u.h tr u.ld v)) (w' := W) (by simp [execOp, hx, go_sem]) (hX.step1 9 _ (by rw [hvs]; rfl) (by decide) (by decide) ?_)
                    rw [hvs]
                    exact ⟨hbt, hr1, v, hx, rfl, hov⟩
                  · rintro ρ f W ⟨vs, us, hX⟩ hfi hw hcl hf
                    have g39 := hX.get1 1 8 rfl (hf.1 39 (by simp [Op.operands]))
                    obtain ⟨v, hv⟩ := hX.st.tup g39
                    exact ok_value (v := .int .i64 (won : Int)) (w' := W) (by simp [execOp, hv, go_sem]) (hX.pure 10 _ (by decide) (by decide) rfl hX.st)
                  · rintro ρ f W ⟨vs, us, hX⟩ hfi hw hcl hf
                    have f1 : ρ (.tmp 1) = .pointer (some ⟨b1, 0, none⟩) := hf.1 1 (by simp [Op.operands])
                    have g48 := hX.get1 2 9 rfl (hf.1 48 (by simp [Op.operands]))
                    have hl := hX.le1 3 11 rfl hfi
                    obtain ⟨x, y, hvs⟩ := list3 hl g48
                    have hst := hX.st
                    rw [hvs] at hst
                    obtain ⟨hbt, hr1, v, hx, hz, hov⟩ := hst
                    obtain ⟨va, vc, rfl, -⟩ := hov.slice
                    refine ok_skip (exec_store_row 50 (.tmp 1) (.tmp 48) rfl b1 (posA u.h tr u.ld (.slice va u.cs.length vc)) f1 hz hr1 size_rpos (by rw [HPZ.out]; rfl) (by simp [posA, Value.oneCell'])) (hX.step1 11 _ (by rw [hvs]; rfl) (by decide) (by decide) ?_)
                    rw [hvs]
                    exact ⟨hbt.trans (but_setRow _ _ _ _), _, hx, setRow_heap _ _ _ _ _ _ hr1, hov.row hr1 (by decide) _⟩
                case fini9 =>
                  rintro us w9 hlen ⟨vs, us', hX⟩
                  have hl0 : us.length = 12 := hlen
                  match us, hl0 with
                  | [x0, x1, x2, x3, x4, x5, x6, x7, x8, x9, x10, x11], _ =>
                    have hst := hX.st
                    obtain ⟨z0, z1, z2, hvs⟩ := list4 hX.l1 (hX.get1 3 11 rfl (v := x11) rfl)
                    rw [hvs] at hst
                    obtain ⟨hbt, v, -, hr9, hov9⟩ := hst
                    have HBT9 := Lib.hid hbt
                    have HR9 := Lib.hid hr9
                    have HOV9 := Lib.hid hov9
                    clear hX hbt hr9 hov9 hvs hlen
                    simp only [putAll, List.zip_cons_cons, List.zip_nil_right, List.foldl_cons, List.foldl_nil]
                    simp only [Act.put, List.setIfInBounds_toArray, List.set_cons_succ, List.set_cons_zero]
                    go_wp2_with fail
                    go_roundg k
                    case measure => omega
                    case rel =>
                      have hmem := List.mem_of_getElem? HC.out
                      obtain ⟨q', hp', -, -, hmq⟩ := HPOS.out.put tr hmem
                      have hmq' := hmq k (by have := HMQ.out; omega)
                      rw [HU.out] at hp' hmq'
                      obtain ⟨va, vc, rfl, -, -, -, hab, hby⟩ := HOV9.out.byt (by have := HU6.out.1; omega) HU6.out.2
                      refine ⟨q', u, va, vc, pv8, P ++ [c], rfl, ⟨HR9.out, hby, fun h ad e => ⟨fun e2 => ?_, fun e2 => ?_⟩, hp', hmq', ?_, ?_, ?_, ?_⟩⟩
                      · have h1 := (hab ad e).1
                        have h2 := HR8.out.lt
                        omega
                      · have h1 := (hab ad e).1
                        have h2 := own_lt HO8.out e2
                        omega
                      · exact Owns.kept HO8.out (HBT9.out.grown (Nat.le_refl _)) (.inl (own_apart HO8.out HR8.out (by decide)))
                      · rw [← HI2.out.sum]
                        show (P ++ [c]) ++ lineV tr k u = P ++ (t.best tr k :: lineV tr k (t.put tr (t.best tr k)).1)
                        rw [← HBT.out, HU.out, List.append_assoc]; rfl
                      · have := HI2.out.pl
                        rw [List.length_append]; simp; omega
                      · exact But.below HBW8.out HBT9.out HBW8.out.size (by rw [HBS.out]; exact Nat.le_refl _)
              · have hyd : ((y : Int) == (V : Int)) = false := by rw [beq_eq_false_iff_ne]; omega
                have HNO2 : Hid (∀ j d, j < i + 1 → t.cards[j]? = some d → worth tr k t d ≠ V) := Lib.hid (fun j d hj hd => by
                  rcases Nat.lt_or_ge j i with h | h
                  · exact HNO.out j d h hd
                  · obtain rfl : j = i := by omega
                    obtain rfl : d = c := Option.some.inj (hd.symm.trans HC.out)
                    rw [HY.out]; exact hyV)
                clear hyV
                go_wp2_with fail
                go_roundg (nl - (i + 1))
                case measure => omega
                case rel => exact ⟨i + 1, rfl, by omega, rfl, by simp, rfl, HNO2.out⟩
            · obtain rfl : i = nl := by omega
              exact (some_best (tr := tr) (m := k) HCN.out fun j d hj hd => by rw [HVV.out]; exact HNO.out j d (by rw [HNL.out]; exact hj) hd).elim
end Go.Proofs.YtpobcaopfeddgaaDoor

/- finesselaw15.few; a slice of bytes made with room. -/
namespace Go.Proofs.YtpobcaopfeddgaaDoor
open Go.RowKit Go.Shelf Go.Sort Go.Maps Go.WideMaps

theorem make_bytes (n : Nat) (hn : n ≤ 1000) (w1 : World) : (Instr.makeSlice 25 (.int .i64 0) (.int .i64 (n : Int))).run Tryd.prog w1 = .ok (.slice (some ⟨w1.heap.size, 0, none⟩) 0 n) (w1.alloc (.cells (Array.replicate n (.int .u8 0)) 5)) := by
  obtain ⟨i, hq, h0, h1, h2⟩ := info_parts info_u8'
  have hr := run_makeSlice (P := Tryd.prog) w1 25 5 i (.int .u8 0) Tryd.underlying25 hq h0 .i64 .i64 0 (n : Int) (by omega) (by omega) (by rw [h1]; simp; omega) (by rw [h2]; omega) (by omega)
  have e : madeCells (Value.int .u8 0).cells n = Array.replicate n (.int .u8 0) := by
    apply Array.ext_getElem?
    intro j
    by_cases hj : j < n
    · simp [madeCells, hj, Value.cells, Nat.mod_one]
    · rw [Array.getElem?_eq_none (by simp [size_madeCells]; omega), Array.getElem?_eq_none (by simp; omega)]
  rw [hr]
  simp only [Int.toNat_natCast, h1, Nat.mul_one, e]
  simp
theorem ownU_makeN (w : World) (base n : Nat) (hn : n ≤ 1000) (h : base ≤ w.heap.size) : OwnU (w.alloc (.cells (Array.replicate n (.int .u8 0)) 5)) base (.slice (some ⟨w.heap.size, 0, none⟩) 0 n) [] :=
  ⟨encU_len, World.ownsRow_made w _ n h (by unfold maxLen; omega) (by simp)⟩
/-- what few tells -/
def FewOk (h : Nat → Nat) (tr ld : Nat) (ps : List Nat) (w : World) (e : Ending) (w' : World) : Prop := ∃ d, e = .returned (.bool d) ∧ (d = true → ps.length ≤ 8 ∧ (rightB h tr ld ps = true → ∀ s, s < 4 → pop (h s) ≤ 3)) ∧ Below w.heap.size w w'
set_option maxHeartbeats 2000000 in
set_option maxRecDepth 10000 in
theorem law15_few (h : Nat → Nat) (tr ld : Nat) (ps : List Nat) (a : Option Addr) (cap : Nat) (w : World) (hw : ∀ s, W64 (h s)) (htr : tr < 256) (hld : ld < 256) (hz : Byt w a ps.length ps) :
    Calls Tryd.prog 11 #[.agg (posA h tr ld (.slice a ps.length cap))] w (FewOk h tr ld ps w) := by
  have HW := Lib.hid hw
  have HYZ := Lib.hid hz
  have HTR := Lib.hid (And.intro htr hld)
  have HTH := Lib.hid (fun W hzW => law15_theirs h tr ld ps a ps.length cap W hzW)
  have HBI := Lib.hid (fun s W => law15_bits (h s) (hw s) W)
  have HPL : Hid (∀ s, pop (h s) ≤ 64) := Lib.hid fun s => cntLe _ _
  have HIX := Lib.hid (fun (j : Nat) (hj : j < 4) => deA_ix h hj)
  have HR0 := Lib.hid (Row.new w 27 (posA h tr ld (.slice a ps.length cap)))
  have HB0 := Lib.hid ((Below.refl w.heap.size w).alloc (Nat.le_refl _) (.cells (posA h tr ld (.slice a ps.length cap)) 27))
  obtain ⟨PA, hPA⟩ : ∃ A, posA h tr ld (.slice a ps.length cap) = A := ⟨_, rfl⟩
  have HPE := Lib.hid hPA
  rw [hPA] at HTH HR0 HB0 ⊢
  have HPZ : Hid (PA.size = 7) := Lib.hid (by rw [← hPA]; rfl)
  have hsm := hz.small
  clear hPA hz hw htr hld
  go_enter Tryd.func11, Tryd.ntmps11
  go_upto_region 1 with fail
  generalize w.alloc (.cells PA 27) = w1 at *
  obtain ⟨b1, hb1⟩ : ∃ b, w.heap.size = b := ⟨_, rfl⟩
  rw [hb1] at HR0 ⊢
  clear hb1
  have c0 : w1.cell? ⟨b1, 0, none⟩ = some (Value.int .u64 (h 0 : Int)) := (HR0.out.cell 0).trans (by rw [← HPE.out]; rfl)
  have c1 : w1.cell? ⟨b1, 1, none⟩ = some (Value.int .u64 (h 1 : Int)) := (HR0.out.cell 1).trans (by rw [← HPE.out]; rfl)
  have c2 : w1.cell? ⟨b1, 2, none⟩ = some (Value.int .u64 (h 2 : Int)) := (HR0.out.cell 2).trans (by rw [← HPE.out]; rfl)
  have c3 : w1.cell? ⟨b1, 3, none⟩ = some (Value.int .u64 (h 3 : Int)) := (HR0.out.cell 3).trans (by rw [← HPE.out]; rfl)
  have c6 : w1.cell? ⟨b1, 6, none⟩ = some (.slice a ps.length cap) := (HR0.out.cell 6).trans (by rw [← HPE.out]; rfl)
  by_cases h8 : 8 < ps.length
  · have h8d : decide ((8 : Int) < (ps.length : Int)) = true := by simp; omega
    clear h8
    go_wp2_with fail
    go_ret
    exact ⟨false, rfl, (fun h => by cases h), HB0.out⟩
  have h8d : decide ((8 : Int) < (ps.length : Int)) = false := by simp; omega
  have H8 : Hid (ps.length ≤ 8) := Lib.hid (by omega)
  clear h8
  go_wp2_with fail
  clear c0 c1 c2 c3 c6 h8d
  go_loopg [4, 11] 4 (fun g _ i wr => ∃ k : Nat, g = 4 - k ∧ k ≤ 4 ∧ i = .int .i64 (k : Int) ∧ (rightB h tr ld ps = true → ∀ s, s < k → pop (h s) ≤ 3) ∧ Row wr b1 27 PA ∧ Below w.heap.size w wr)
  case atStart => exact ⟨0, rfl, by omega, rfl, fun _ s hs => by omega, HR0.out, HB0.out⟩
  case round =>
    obtain ⟨k, rfl, hk, rfl, hpre, hrow, hbl⟩ := hrel
    have HPR := Lib.hid hpre
    have HRW := Lib.hid hrow
    have HBL := Lib.hid hbl
    clear hpre hrow hbl
    by_cases hk4 : k < 4
    · have hki : (k : Int) < 4 := by omega
      have hidx := HIX.out k hk4
      obtain ⟨p, hp⟩ : ∃ p, pop (h k) = p := ⟨_, rfl⟩
      have hp64 : p ≤ 64 := by rw [← hp]; exact HPL.out k
      have HBK := Lib.hid (HBI.out k)
      rw [hp] at HBK
      by_cases hp2 : 3 < p
      · have hp2d : decide ((3 : Int) < (p : Int)) = true := by simp; omega
        have hc := fun i v (e : PA[i]? = some v) => (HRW.out.cell i).trans e
        have c0 : wr.cell? ⟨b1, 0, none⟩ = some (Value.int .u64 (h 0 : Int)) := hc 0 _ (by rw [← HPE.out]; rfl)
        have c1 : wr.cell? ⟨b1, 1, none⟩ = some (Value.int .u64 (h 1 : Int)) := hc 1 _ (by rw [← HPE.out]; rfl)
        have c2 : wr.cell? ⟨b1, 2, none⟩ = some (Value.int .u64 (h 2 : Int)) := hc 2 _ (by rw [← HPE.out]; rfl)
        have c3 : wr.cell? ⟨b1, 3, none⟩ = some (Value.int .u64 (h 3 : Int)) := hc 3 _ (by rw [← HPE.out]; rfl)
        have c4 : wr.cell? ⟨b1, 4, none⟩ = some (Value.int .u8 (tr : Int)) := hc 4 _ (by rw [← HPE.out]; rfl)
        have c5 : wr.cell? ⟨b1, 5, none⟩ = some (Value.int .u8 (ld : Int)) := hc 5 _ (by rw [← HPE.out]; rfl)
        have c6 : wr.cell? ⟨b1, 6, none⟩ = some (.slice a ps.length cap) := hc 6 _ (by rw [← HPE.out]; rfl)
        have HTH2 := Lib.hid (HTH.out wr (HYZ.out.below (Nat.le_refl _) HBL.out))
        rw [← HPE.out] at HTH2
        unfold posA at HTH2
        clear hp2 hp hc
        go_wp2_with (go_at_call 21; (with_reducible refine (HBK.out _).mono ?_); rintro e w' ⟨rfl, rfl⟩)
        refine HTH2.out.mono ?_
        rintro e w2 ⟨v, rfl, hov, hb2⟩
        have HR2 := Lib.hid (HRW.out.later hb2)
        have HB2 := Lib.hid (HBL.out.trans (hb2.mono HBL.out.size))
        obtain ⟨va, vc, hve, -, -, -, -, hby⟩ := hov.byt (by have := H8.out; omega) HYZ.out.byte
        subst hve
        have HRI := Lib.hid (dr_Right h tr ld ps va vc HW.out HTR.out.1 HTR.out.2 w2 hby)
        unfold posA at HRI
        clear hb2 hov hby c0 c1 c2 c3 c4 c5 c6
        go_wp2_with fail
        refine HRI.out.mono ?_
        rintro e w3 ⟨rfl, hb3⟩
        have HR3 := Lib.hid (HR2.out.later hb3)
        have HB3 := Lib.hid (HB2.out.trans (hb3.mono HB2.out.size))
        clear hb3
        cases hR : rightB h tr ld ps
        · have HRF := Lib.hid hR
          clear hR
          go_wp2_with fail
          go_roundg (4 - (k + 1))
          case measure => omega
          case rel => exact ⟨k + 1, rfl, by omega, by simp, (fun e => by have := HRF.out; rw [e] at this; cases this), HR3.out, HB3.out⟩
        · clear hR
          go_wp2_with fail
          go_ret
          exact ⟨false, rfl, (fun h => by cases h), HB3.out⟩
      · have hp2d : decide ((3 : Int) < (p : Int)) = false := by simp; omega
        have HPN : Hid (rightB h tr ld ps = true → ∀ s, s < k + 1 → pop (h s) ≤ 3) := Lib.hid (fun e s hs => by
          rcases Nat.lt_or_ge s k with h1 | h1
          · exact HPR.out e s h1
          · obtain rfl : s = k := by omega
            rw [hp]; omega)
        clear hp2 hp
        go_wp2_with (go_at_call 21; (with_reducible refine (HBK.out _).mono ?_); rintro e w' ⟨rfl, rfl⟩)
        go_roundg (4 - (k + 1))
        case measure => omega
        case rel => exact ⟨k + 1, rfl, by omega, by simp, HPN.out, HRW.out, HBL.out⟩
    · obtain rfl : k = 4 := by omega
      simp only [show ((4 : Nat) : Int) = 4 from rfl]
      go_wp2_with fail
      go_ret
      exact ⟨true, rfl, fun _ => ⟨H8.out, HPR.out⟩, HBL.out⟩
end Go.Proofs.YtpobcaopfeddgaaDoor

/- Small facts for finesselaw15.tells. -/
namespace Go.Proofs.YtpobcaopfeddgaaDoor
open Go.RowKit Go.Shelf Go.Sort Go.Maps Go.WideMaps

theorem quiet_mid {P : Program} {ops : Array Oper} {C : World → Prop} {Q : Act → Prop} {a : Act} {o : Oper} {rest : List Oper} (hgd : o.guard = none) (ty : TypeId) (x : Operand) (ho : o.op = .load ty x) (b off : Nat) (hx : a.eval x = .pointer (some ⟨b, off, none⟩)) {cs : List Value} {d : TypeDesc}
    (hg : ∀ w', C w' → w'.rangeAt b off cs) (hu : P.underlying ty = some d) (hd : d.isRow = true) (hi : (P.info? ty).map (·.size) = some cs.length) (h : wpQuiet P ops C Q rest (a.put o.dst (.agg cs.toArray))) : wpQuiet P ops C Q (o :: rest) a := by
  refine BigFrame.wpQuiet_want (by simp [Region.wanted, hgd]) fun K hK => ⟨.agg cs.toArray, fun w hw => ?_, hK _ h⟩
  unfold Oper.quietAt
  rw [exec_load_mid ty x ho b off hx cs d (hg w hw) hu hd hi]
  exact ⟨rfl, rfl⟩
theorem size_rch : (Tryd.prog.info? 65).map (·.size) = some 2 := by kernel_rfl
theorem Byt.lt {W : World} {a : Option Addr} {len : Nat} {zs : List Nat} (h : Byt W a len zs) : 0 < len → ∀ ad, a = some ad → ad.block < W.heap.size := by
  intro hl ad e
  obtain ⟨b, off, ha, hb, -⟩ := h.at hl
  rw [e] at ha
  rw [Option.some.inj ha]
  exact hb
theorem owns_range {T : TypeId} {W : World} {base g n cap : Nat} {l : List (Nat × Nat)} (h : Owns encC 2 T W base (.slice (some ⟨g, 0, none⟩) n cap) l) {k : Nat} {x : Nat × Nat} (hx : l[k]? = some x) : W.rangeAt g (k * 2) [.int .u8 (x.1 : Int), .int .i64 (x.2 : Int)] := by
  intro i v hv
  have hi : i < 2 := (List.getElem?_eq_some_iff.1 hv).1
  rw [Owns.cell h k i hi hx]
  exact hv
theorem range_below {B g off : Nat} {W W' : World} {cs : List Value} (h : W.rangeAt g off cs) (hb : Below B W W') (hg : g < B) : W'.rangeAt g off cs := fun i v hv => (hb.cell (p := ⟨g, off + i, none⟩) hg).trans (h i v hv)
theorem eq_choice (c y : Int) (w : World) : Sem.run Tryd.prog (Op.equalIn 10000 65 (.agg #[.int .u8 c, .int .i64 y]) (.agg #[.int .u8 c, .int .i64 y])) w = .ok true w := by
  rw [run_equalIn_struct (P := Tryd.prog) w 9999 _ _ _ (by kernel_rfl) (by kernel_rfl)]
  have hU := Tryd.underlying65
  simp only [Program.fieldsOf, hU]
  have p0 : Sem.run Tryd.prog (part 5 #[.int .u8 c, .int .i64 y] 0) w = .ok (.int .u8 c) w := by kernel_rfl
  have p1 : Sem.run Tryd.prog (part 3 #[.int .u8 c, .int .i64 y] 1) w = .ok (.int .i64 y) w := by kernel_rfl
  have e0 := run_equalIn_int (P := Tryd.prog) w 9998 5 .u8 .u8 c c Tryd.underlying5
  have e1 := run_equalIn_int (P := Tryd.prog) w 9998 3 .i64 .i64 y y Tryd.underlying3
  simp [Op.eqFields, p0, p1, e0, e1]
theorem set_back (l : List Nat) (k x y : Nat) (h : l[k]? = some x) : (l.set k y).set k x = l := by
  rw [List.set_set]
  apply List.ext_getElem?
  intro j
  rw [List.getElem?_set]
  split
  · rename_i e
    subst e
    rw [h]
    split
    · rfl
    · rename_i hl
      exact absurd (List.getElem?_eq_some_iff.1 h).1 hl
  · rfl
theorem line_byte (tr : Nat) : ∀ {m q : Nat} {t : Tb}, PosT q t → m + t.cs.length = 4 * q → ∀ i, (lineV tr m t).getD i 0 < 256
  | 0, _, _, _, _, i => by unfold lineV; simp
  | m + 1, q, t, H, hm, i => by
    have hl := H.ok.pk.2
    have hc := cards_some H.ok H.evn (show 0 < q by omega)
    have hb := best_mem (tr := tr) (m := m) hc
    obtain ⟨q', hp, -, -, hmq⟩ := H.put tr hb
    unfold lineV
    cases i with
    | zero => have := (mem_cards.1 hb).1; simp; omega
    | succ i =>
      rw [List.getD_cons_succ]
      exact line_byte tr hp (hmq m hm) i
end Go.Proofs.YtpobcaopfeddgaaDoor

/- finesselaw15.tells as far as both positions are made: a piece of the walk. -/
namespace Go.Proofs.YtpobcaopfeddgaaDoor
open Go.RowKit Go.Shelf Go.Sort Go.Maps Go.WideMaps

/-- while the position with room is made -/
def TlS (h : Nat → Nat) (tr ld : Nat) (ps : List Nat) (w1 : World) (vs us : List Value) (W : World) : Prop := Below w1.heap.size w1 W ∧ (match vs with
  | [] => True
  | [x] => OwnU W w1.heap.size x []
  | [_, y] => OwnU W w1.heap.size y ps
  | [_, y, z] => OwnU W w1.heap.size y ps ∧ z = .agg (posA h tr ld y)
  | [_, y, _, _] => OwnU W w1.heap.size y ps
  | _ => False) ∧ match us with
  | [] => vs.length ≤ 3
  | [x] => ∃ g, x = .pointer (some ⟨g, 0, none⟩) ∧ w1.heap.size ≤ g ∧ match vs with
    | [_, y, _, _] => Row W g 27 (posA h tr ld y)
    | _ => Row W g 27 zeroP
  | _ => False
variable {h : Nat → Nat} {tr ld : Nat} {ps : List Nat} {w1 W W' : World} {vs us : List Value} {x y : Value}
theorem TlS.alloc6 (H : TlS h tr ld ps w1 [] us W) (o : Obj) {v : Value} (hv : OwnU (W.alloc o) w1.heap.size v []) : TlS h tr ld ps w1 ([] ++ [v]) us (W.alloc o) := by
  refine ⟨H.1.alloc H.1.size o, hv, ?_⟩
  have h3 := H.2.2
  match us, h3 with
  | [], _ => exact (by decide : 1 ≤ 3)
  | [x], ⟨g, h1, h2, h3⟩ => exact ⟨g, h1, h2, Row.alloc h3 o⟩
theorem TlS.app (H : TlS h tr ld ps w1 [x] us W) {v : Value} (ho : OwnU W' w1.heap.size v ([] ++ ps)) (hg : W.grownBy W' x.ownBlock) : TlS h tr ld ps w1 ([x] ++ [v]) us W' := by
  have hO : OwnU W w1.heap.size x [] := H.2.1
  refine ⟨H.1.grown hg H.1.size (fun k hk => (World.ownsRow.lt hO.2 k hk).1), ho, ?_⟩
  have h3 := H.2.2
  match us, h3 with
  | [], _ => exact (by decide : 2 ≤ 3)
  | [u], ⟨g, h1, h2, h3⟩ => exact ⟨g, h1, h2, Row.grown h3 hg fun e => own_apart hO h3 (by decide) e.symm⟩
theorem TlS.box (H : TlS h tr ld ps w1 vs [] W) : TlS h tr ld ps w1 vs ([] ++ [.pointer (some ⟨W.heap.size, 0, none⟩)]) (W.alloc (.cells zeroP 27)) := by
  have h3 : vs.length ≤ 3 := H.2.2
  have hn := Row.new W 27 zeroP
  refine ⟨H.1.alloc H.1.size _, ?_, W.heap.size, rfl, H.1.size, ?_⟩
  · have h2 := H.2.1
    match vs, h3, h2 with
    | [], _, _ => trivial
    | [x], _, h2 => exact Owns.alloc h2 _
    | [x, y], _, h2 => exact Owns.alloc h2 _
    | [x, y, z], _, h2 => exact ⟨Owns.alloc h2.1 _, h2.2⟩
  · match vs, h3 with
    | [], _ => exact hn
    | [x], _ => exact hn
    | [x, y], _ => exact hn
    | [x, y, z], _ => exact hn
theorem TlS.built {z : Value} (H : TlS h tr ld ps w1 [x, y] us W) (hz : z = .agg (posA h tr ld y)) : TlS h tr ld ps w1 ([x, y] ++ [z]) us W := by
  refine ⟨H.1, ⟨H.2.1, hz⟩, ?_⟩
  have h3 := H.2.2
  match us, h3 with
  | [], _ => exact (by decide : 3 ≤ 3)
  | [u], h3 => exact h3
/-- Play, whatever the card -/
def PlayAny (h : Nat → Nat) (tr ld : Nat) (ps : List Nat) (card : Nat) (w : World) (e : Ending) (w' : World) : Prop := ∃ (NA : Array Value) (wn er : Nat), e = .returned (.tuple #[.agg NA, .int .i64 (wn : Int), .int .i64 (er : Int)]) ∧ Below w.heap.size w w' ∧ NA.size = 7 ∧ NA.all (·.oneCell') = true ∧
  ((Tb.legal ⟨h, ld, ps⟩ card = false ∧ NA = zeroP ∧ wn = 0 ∧ er = 6) ∨ (Tb.legal ⟨h, ld, ps⟩ card = true ∧ er = 0 ∧ wn = ((Tb.mk h ld ps).put tr card).2 ∧ ∃ v, NA = posA ((Tb.mk h ld ps).put tr card).1.h tr ((Tb.mk h ld ps).put tr card).1.ld v ∧ OwnU w' w.heap.size v ((Tb.mk h ld ps).put tr card).1.cs))
theorem dm_Play_any (h : Nat → Nat) (tr ld : Nat) (ps : List Nat) (a : Option Addr) (cap c : Nat) (hw : ∀ s, W64 (h s)) (htr : tr < 256) (hld : ld < 256) (hc : c < 256) (w : World) (hz : Byt w a ps.length ps) (hr : rightB h tr ld ps = true) :
    Calls Tryd.prog 19 #[.agg (posA h tr ld (.slice a ps.length cap)), .int .u8 (c : Int)] w (PlayAny h tr ld ps c w) := by
  cases hl : Tb.legal ⟨h, ld, ps⟩ c
  · refine (dm_Play_none h tr ld ps a cap c hw htr hld hc w hz hr hl).mono ?_
    rintro e w' ⟨rfl, hb⟩
    exact ⟨zeroP, 0, 6, rfl, hb, rfl, by simp [Value.oneCell'], .inl ⟨hl, rfl, rfl, rfl⟩⟩
  · refine (dm_Play_ok h tr ld ps a cap c hw htr hld w hz hr hl).mono ?_
    rintro e w' ⟨v, rfl, hov, hb⟩
    obtain ⟨va, vc, rfl, -⟩ := hov.slice
    exact ⟨_, _, 0, rfl, hb, rfl, by simp [posA, Value.oneCell'], .inr ⟨hl, rfl, rfl, _, rfl, hov⟩⟩
theorem zeroP_pos : posA (fun _ => 0) 0 0 (.slice none 0 0) = zeroP := rfl
set_option maxHeartbeats 16000000 in
set_option maxRecDepth 10000 in
theorem law15_tells (h : Nat → Nat) (tr ld : Nat) (ps : List Nat) (a : Option Addr) (cap card : Nat) (w : World) (hw : ∀ s, W64 (h s)) (htr : tr < 256) (hld : ld < 256) (hcard : card < 256) (hz : Byt w a ps.length ps) (hT : Tab w) (h8 : ps.length ≤ 8) (h3 : rightB h tr ld ps = true → ∀ s, s < 4 → pop (h s) ≤ 3) :
    Calls Tryd.prog 12 #[.agg (posA h tr ld (.slice a ps.length cap)), .int .u8 (card : Int)] w fun e w' => e = .returned (.bool true) ∧ Below w.heap.size w w' := by
  have HW := Lib.hid hw
  have HTR := Lib.hid (And.intro htr hld)
  have H8 := Lib.hid h8
  have H3 := Lib.hid h3
  have HT := Lib.hid hT
  have HYZ := Lib.hid hz
  have HTH := Lib.hid (fun W hzW => law15_theirs h tr ld ps a ps.length cap W hzW)
  have HR0 := Lib.hid (Row.new w 27 (posA h tr ld (.slice a ps.length cap)))
  have HB0 := Lib.hid ((Below.refl w.heap.size w).alloc (Nat.le_refl _) (.cells (posA h tr ld (.slice a ps.length cap)) 27))
  have HPZ : Hid ((posA h tr ld (.slice a ps.length cap)).size = 7) := Lib.hid rfl
  clear hw htr hld h8 h3 hT hz
  go_enter Tryd.func12, Tryd.ntmps12
  go_upto_region 1 with fail
  generalize w.alloc (.cells (posA h tr ld (.slice a ps.length cap)) 27) = w0 at *
  obtain ⟨b2, hb2⟩ : ∃ b, w.heap.size = b := ⟨_, rfl⟩
  have HBS := Lib.hid hb2
  rw [hb2] at HR0 ⊢
  clear hb2
  go_wp2_with (refine wpList_load_row rfl 27 (.tmp 2) rfl b2 rfl 27 (posA h tr ld (.slice a ps.length cap)) (0, 0) _ HR0.out Tryd.underlying27 rfl (by rw [HPZ.out]; exact size_pos) ?_)
  refine (HTH.out w0 (HYZ.out.below (Nat.le_refl _) HB0.out)).mono ?_
  rintro e wa ⟨v, rfl, hov, hba⟩
  have HRa := Lib.hid (HR0.out.later hba)
  have HBa := Lib.hid (HB0.out.trans (hba.mono HB0.out.size))
  obtain ⟨va, vc, hve, -, -, -, -, hby⟩ := hov.byt (by have := H8.out; omega) HYZ.out.byte
  subst hve
  have HQY := Lib.hid hby
  clear hba hov hby
  have HQZ : Hid ((posA h tr ld (.slice va ps.length vc)).size = 7 ∧ (posA h tr ld (.slice va ps.length vc)).all (·.oneCell') = true) := Lib.hid ⟨rfl, by simp [posA, Value.oneCell']⟩
  obtain ⟨QA, hQA⟩ : ∃ A, posA h tr ld (.slice va ps.length vc) = A := ⟨_, rfl⟩
  have HQE := Lib.hid hQA
  rw [hQA] at HQZ ⊢
  clear hQA
  have HNa := Lib.hid (Row.new wa 50 zeroP)
  have ha := below_setRow ((Below.refl wa.heap.size wa).alloc (Nat.le_refl _) (.cells zeroP 50)) (Nat.le_refl _) QA
  have hr : Row ((wa.alloc (.cells zeroP 50)).setRow wa.heap.size QA) wa.heap.size 50 QA := setRow_heap _ _ _ _ _ _ HNa.out
  have HR2 := Lib.hid (HRa.out.later ha)
  have HRq := Lib.hid hr
  have HB1 := Lib.hid (HBa.out.trans (ha.mono HBa.out.size))
  have HQY1 := Lib.hid (HQY.out.below (Nat.le_refl _) ha)
  clear ha hr
  go_upto_region 2 with (refine wpList_store_row rfl 50 (.tmp 5) (.tmp 26) rfl wa.heap.size QA rfl rfl 50 _ HNa.out (by rw [HQZ.out.1]; exact size_rpos) (by rw [HQZ.out.1]; rfl) HQZ.out.2 ?_)
  try dsimp only [Act.put]
  generalize (wa.alloc (.cells zeroP 50)).setRow wa.heap.size QA = w1 at *
  generalize wa.heap.size = b5 at *
  have HZ := Lib.hid (HYZ.out.below (Nat.le_refl _) HB1.out)
  clear HNa HRa HBa HQY HR0 HB0
  obtain ⟨n, hn⟩ : ∃ n, ps.length = n := ⟨_, rfl⟩
  have HN := Lib.hid hn
  rw [hn] at HR2 HZ ⊢
  clear hn
  refine wp_region_reliesS (ChF [.pointer (some ⟨b2, 0, none⟩), .agg #[.int .u64 (h 0 : Int), .int .u64 (h 1 : Int), .int .u64 (h 2 : Int), .int .u64 (h 3 : Int)], .pointer (some ⟨b2, 4, none⟩), .int .u8 (tr : Int), .pointer (some ⟨b2, 5, none⟩), .int .u8 (ld : Int), undef, .pointer (some ⟨b2, 6, none⟩), .slice a n cap, undef, undef, undef, undef] [6, 9, 10, 12] [11] (TlS h tr ld ps w1)) (by kernel_rfl) (by kernel_rfl) (by kernel_rfl) (by kernel_rfl) (ChF.start ⟨(Below.refl _ _).drew, trivial, Nat.zero_le _⟩) ?obls ?fini
  case obls =>
    refine ⟨?_, ?_, ?_, ?_, ?_, ?_, ?_, ?_, ?_, ?_, ?_, ?_, ?_, trivial⟩
    · rintro ρ f W ⟨vs, us, hX⟩ hfi hw hcl hf
      have f2 : ρ (.tmp 2) = .pointer (some ⟨b2, 0, none⟩) := hf.1 2 (by simp [Op.operands])
      exact ok_value (v := .pointer (some ⟨b2, 0, none⟩)) (w' := W) (by simp [execOp, f2, go_sem]) (hX.pure 0 _ (by decide) (by decide) rfl hX.st)
    · rintro ρ f W ⟨vs, us, hX⟩ hfi hw hcl hf
      have f27 : ρ (.tmp 27) = .pointer (some ⟨b2, 0, none⟩) := hX.val 0 _ _ (by decide) (by decide) (hf.1 27 (by simp [Op.operands])) rfl
      have hr2 : Row W b2 27 (posA h tr ld (.slice a n cap)) := HR2.out.later hX.st.1
      have c0 := hr2.cell 0
      have c1 := hr2.cell 1
      have c2 := hr2.cell 2
      have c3 := hr2.cell 3
      simp only [posA, List.getElem?_toArray, List.getElem?_cons_zero, List.getElem?_cons_succ] at c0 c1 c2 c3
      exact ok_value (v := .agg #[.int .u64 (h 0 : Int), .int .u64 (h 1 : Int), .int .u64 (h 2 : Int), .int .u64 (h 3 : Int)]) (w' := W) (by simp [execOp, f27, go_sem, c0, c1, c2, c3]) (hX.pure 1 _ (by decide) (by decide) rfl hX.st)
    · rintro ρ f W ⟨vs, us, hX⟩ hfi hw hcl hf
      have f2 : ρ (.tmp 2) = .pointer (some ⟨b2, 0, none⟩) := hf.1 2 (by simp [Op.operands])
      exact ok_value (v := .pointer (some ⟨b2, 4, none⟩)) (w' := W) (by simp [execOp, f2, go_sem]) (hX.pure 2 _ (by decide) (by decide) rfl hX.st)
    · rintro ρ f W ⟨vs, us, hX⟩ hfi hw hcl hf
      have f29 : ρ (.tmp 29) = .pointer (some ⟨b2, 4, none⟩) := hX.val 2 _ _ (by decide) (by decide) (hf.1 29 (by simp [Op.operands])) rfl
      have hr2 : Row W b2 27 (posA h tr ld (.slice a n cap)) := HR2.out.later hX.st.1
      have c4 : W.cell? ⟨b2, 4, none⟩ = some (.int .u8 (tr : Int)) := hr2.cell 4
      exact ok_value (v := .int .u8 (tr : Int)) (w' := W) (by simp [execOp, f29, go_sem, c4]) (hX.pure 3 _ (by decide) (by decide) rfl hX.st)
    · rintro ρ f W ⟨vs, us, hX⟩ hfi hw hcl hf
      have f2 : ρ (.tmp 2) = .pointer (some ⟨b2, 0, none⟩) := hf.1 2 (by simp [Op.operands])
      exact ok_value (v := .pointer (some ⟨b2, 5, none⟩)) (w' := W) (by simp [execOp, f2, go_sem]) (hX.pure 4 _ (by decide) (by decide) rfl hX.st)
    · rintro ρ f W ⟨vs, us, hX⟩ hfi hw hcl hf
      have f31 : ρ (.tmp 31) = .pointer (some ⟨b2, 5, none⟩) := hX.val 4 _ _ (by decide) (by decide) (hf.1 31 (by simp [Op.operands])) rfl
      have hr2 : Row W b2 27 (posA h tr ld (.slice a n cap)) := HR2.out.later hX.st.1
      have c5 : W.cell? ⟨b2, 5, none⟩ = some (.int .u8 (ld : Int)) := hr2.cell 5
      exact ok_value (v := .int .u8 (ld : Int)) (w' := W) (by simp [execOp, f31, go_sem, c5]) (hX.pure 5 _ (by decide) (by decide) rfl hX.st)
    · rintro ρ f W ⟨vs, us, hX⟩ hfi hw hcl hf
      have hl := hX.le1 0 6 rfl hfi
      have hvs := list0 hl
      have hst := hX.st
      rw [hvs] at hst
      have hsz := hst.1.size
      have hmk := make_bytes 12 (by decide) W
      refine ok_value (v := .slice (some ⟨W.heap.size, 0, none⟩) 0 12) (w' := W.alloc (.cells (Array.replicate 12 (.int .u8 0)) 5)) (by simp only [show ((12 : Nat) : Int) = 12 from rfl] at hmk; simp [execOp, hf.2.1, go_sem, hmk]) (hX.step1 6 _ (by rw [hvs]; rfl) (by decide) (by decide) ?_)
      rw [hvs]
      exact TlS.alloc6 hst _ (ownU_makeN W _ 12 (by decide) hsz)
    · rintro ρ f W ⟨vs, us, hX⟩ hfi hw hcl hf
      have f2 : ρ (.tmp 2) = .pointer (some ⟨b2, 0, none⟩) := hf.1 2 (by simp [Op.operands])
      exact ok_value (v := .pointer (some ⟨b2, 6, none⟩)) (w' := W) (by simp [execOp, f2, go_sem]) (hX.pure 7 _ (by decide) (by decide) rfl hX.st)
    · rintro ρ f W ⟨vs, us, hX⟩ hfi hw hcl hf
      have f34 : ρ (.tmp 34) = .pointer (some ⟨b2, 6, none⟩) := hX.val 7 _ _ (by decide) (by decide) (hf.1 34 (by simp [Op.operands])) rfl
      have hr2 : Row W b2 27 (posA h tr ld (.slice a n cap)) := HR2.out.later hX.st.1
      have c6 : W.cell? ⟨b2, 6, none⟩ = some (.slice a n cap) := hr2.cell 6
      exact ok_value (v := .slice a n cap) (w' := W) (by simp [execOp, f34, go_sem, c6]) (hX.pure 8 _ (by decide) (by decide) rfl hX.st)
    · rintro ρ f W ⟨vs, us, hX⟩ hfi hw hcl hf
      have g33 := hX.get1 0 6 rfl (hf.1 33 (by simp [Op.operands, Call.operands]))
      have f35 : ρ (.tmp 35) = .slice a n cap := hX.val 8 _ _ (by decide) (by decide) (hf.1 35 (by simp [Op.operands, Call.operands])) rfl
      have hl := hX.le1 1 9 rfl hfi
      have hvs := list1 hl g33
      have hst := hX.st
      rw [hvs] at hst
      refine ok_appB (.tmp 33) (.tmp 35) rfl w1.heap.size _ [] ps rfl hst.2.1 a n cap f35 (HZ.out.below (Nat.le_refl _) hst.1) (by have := HZ.out.small; simp; omega) hst.1.size fun v' w' ho hg hnew => hX.step1 9 _ (by rw [hvs]; rfl) (by decide) (by decide) ?_
      rw [hvs]
      exact TlS.app hst ho hg
    · rintro ρ f W ⟨vs, us, hX⟩ hfi hw hcl hf
      have f28 : ρ (.tmp 28) = .agg #[.int .u64 (h 0 : Int), .int .u64 (h 1 : Int), .int .u64 (h 2 : Int), .int .u64 (h 3 : Int)] := hX.val 1 _ _ (by decide) (by decide) (hf.1 28 (by simp [Op.operands])) rfl
      have f30 : ρ (.tmp 30) = .int .u8 (tr : Int) := hX.val 3 _ _ (by decide) (by decide) (hf.1 30 (by simp [Op.operands])) rfl
      have f32 : ρ (.tmp 32) = .int .u8 (ld : Int) := hX.val 5 _ _ (by decide) (by decide) (hf.1 32 (by simp [Op.operands])) rfl
      have g36 := hX.get1 1 9 rfl (hf.1 36 (by simp [Op.operands]))
      have hl := hX.le1 2 10 rfl hfi
      obtain ⟨x, hvs⟩ := list2 hl g36
      have hst := hX.st
      rw [hvs] at hst
      obtain ⟨y, hy⟩ : ∃ y, ρ (.tmp 36) = y := ⟨_, rfl⟩
      have hst2 := hst
      rw [hy] at hst2
      obtain ⟨ya, yc, hye, -⟩ := hst2.2.1.slice
      refine ok_value (v := .agg (posA h tr ld y)) (w' := W) (by rw [hye] at hy ⊢; simp [execOp, f28, f30, f32, hy, go_sem, posA]) (hX.step1 10 _ (by rw [hvs]; rfl) (by decide) (by decide) ?_)
      rw [hvs, hy]
      exact TlS.built hst2 rfl
    · rintro ρ f W ⟨vs, us, hX⟩ hfi hw hcl hf
      have hl := hX.le2 0 11 rfl hfi
      have hus := list0 hl
      have hst := hX.st
      rw [hus] at hst
      refine ok_value (v := .pointer (some ⟨W.heap.size, 0, none⟩)) (w' := W.alloc (.cells zeroP 27)) (by simp [execOp, go_sem]) (hX.step2 11 _ (by rw [hus]; rfl) (by decide) (by decide) ?_)
      rw [hus]
      exact TlS.box hst
    · rintro ρ f W ⟨vs, us, hX⟩ hfi hw hcl hf
      have g6 := hX.get2 0 11 rfl (hf.1 6 (by simp [Op.operands]))
      have g37 := hX.get1 2 10 rfl (hf.1 37 (by simp [Op.operands]))
      have hl := hX.le1 3 12 rfl hfi
      obtain ⟨x, y, hvs⟩ := list3 hl g37
      have hus := hX.get2 0 11 rfl (hf.1 6 (by simp [Op.operands]))
      have hus := list1 hX.l2 hus
      have hst := hX.st
      rw [hvs, hus] at hst
      obtain ⟨hb, ⟨hov, hz⟩, g, hp, hg, hr⟩ := hst
      obtain ⟨ya, yc, rfl, -⟩ := hov.slice
      refine ok_skip (exec_store_row 27 (.tmp 6) (.tmp 37) rfl g (posA h tr ld (.slice ya ps.length yc)) hp hz hr size_pos rfl (by simp [posA, Value.oneCell'])) (hX.step1 12 _ (by rw [hvs]; rfl) (by decide) (by decide) ?_)
      rw [hvs, hus]
      exact ⟨below_setRow hb hg _, hov.row hr (by decide) _, g, hp, hg, setRow_heap _ _ _ _ _ _ hr⟩
  case fini =>
    rintro us w2 hlen ⟨vs, us', hX⟩
    have hl0 : us.length = 13 := hlen
    match us, hl0 with
    | [u0, u1, u2, u3, u4, u5, u6, u7, u8, u9, u10, u11, u12], _ =>
      have hst := hX.st
      obtain ⟨z0, z1, z2, hvs⟩ := list4 hX.l1 (hX.get1 3 12 rfl (v := u12) rfl)
      have hus := list1 hX.l2 (hX.get2 0 11 rfl (v := u11) rfl)
      rw [hvs, hus] at hst
      obtain ⟨hb, hov, b6, rfl, hg6, hr6⟩ := hst
      have HBp := Lib.hid hb
      have HBq := Lib.hid (HB1.out.trans (hb.mono HB1.out.size))
      have HR6 := Lib.hid hr6
      have HR22 := Lib.hid (HR2.out.later hb)
      have HRq2 := Lib.hid (HRq.out.later hb)
      have HQY2 := Lib.hid (HQY1.out.below (Nat.le_refl _) hb)
      obtain ⟨ya, yc, hve, -, -, -, -, hby⟩ := hov.byt (by have := H8.out; omega) HYZ.out.byte
      subst hve
      have HIY := Lib.hid hby
      have HZ2 := Lib.hid (HZ.out.below (Nat.le_refl _) hb)
      clear hX hb hov hby hvs hus hr6 hlen
      simp only [putAll, List.zip_cons_cons, List.zip_nil_right, List.foldl_cons, List.foldl_nil]
      simp only [Act.put, List.setIfInBounds_toArray, List.set_cons_succ, List.set_cons_zero]
      have HW2 := Lib.hid (show b2 < w2.heap.size ∧ b5 < w2.heap.size ∧ b6 < w2.heap.size from ⟨HR22.out.lt, HRq2.out.lt, HR6.out.lt⟩)
      have HT2 := Lib.hid (HT.out.below HT.out.pos HBq.out)
      have HIZ : Hid ((posA h tr ld (.slice ya ps.length yc)).size = 7) := Lib.hid rfl
      have HRR := Lib.hid (fun W hzW => dr_Right h tr ld ps va vc HW.out HTR.out.1 HTR.out.2 W hzW)
      rw [HQE.out] at HRR
      clear HR2 HRq HB1 HQY1 HZ HBp
      go_wp2_with (refine wpList_load_row rfl 50 (.tmp 5) rfl b5 rfl 50 QA (0, 0) _ HRq2.out Tryd.underlying50 rfl (by rw [HQZ.out.1]; exact size_rpos) ?_)
      refine (HRR.out w2 HQY2.out).mono ?_
      rintro e w3 ⟨rfl, hb3⟩
      have HB3 := Lib.hid hb3
      clear hb3
      cases hR : rightB h tr ld ps
      · have HNO := Lib.hid hR
        clear hR
        have HLE := Lib.hid (fun W hz => dm_Left_no h tr ld ps ya yc HW.out HTR.out.1 HTR.out.2 W hz HNO.out)
        have HSO := Lib.hid (fun W hz => dm_Solve_no h tr ld ps ya yc HW.out HTR.out.1 HTR.out.2 W hz HNO.out)
        have HCH := Lib.hid (fun W hz => dm_Choices_no h tr ld ps ya yc HW.out HTR.out.1 HTR.out.2 W hz HNO.out)
        have HLI := Lib.hid (fun W hz => dm_Line_no h tr ld ps ya yc HW.out HTR.out.1 HTR.out.2 W hz HNO.out)
        have HPL := Lib.hid (fun W hz => dm_Play_no h tr ld ps ya yc card HW.out HTR.out.1 HTR.out.2 W hz HNO.out)
        have HRI := Lib.hid (fun W hz => dm_Right h tr ld ps ya yc HW.out HTR.out.1 HTR.out.2 W hz)
        rw [HNO.out] at HRI
        go_wp2_with (refine wpList_load_row rfl 27 (.tmp 6) rfl b6 rfl 27 (posA h tr ld (.slice ya ps.length yc)) (0, 0) _ (HR6.out.later HB3.out) Tryd.underlying27 rfl (by rw [HIZ.out]; exact size_pos) ?_)
        refine (HLE.out w3 (HIY.out.below (Nat.le_refl _) HB3.out)).mono ?_
        rintro e w4 ⟨rfl, hb4⟩
        have HB4 := Lib.hid (HB3.out.trans (hb4.mono HB3.out.size))
        clear hb4
        go_wp2_with (refine wpList_load_row rfl 27 (.tmp 6) rfl b6 rfl 27 (posA h tr ld (.slice ya ps.length yc)) (0, 0) _ (HR6.out.later HB4.out) Tryd.underlying27 rfl (by rw [HIZ.out]; exact size_pos) ?_)
        refine (HSO.out w4 (HIY.out.below (Nat.le_refl _) HB4.out)).mono ?_
        rintro e w5 ⟨rfl, hb5⟩
        have HB5 := Lib.hid (HB4.out.trans (hb5.mono HB4.out.size))
        clear hb5
        go_wp2_with (refine wpList_load_row rfl 27 (.tmp 6) rfl b6 rfl 27 (posA h tr ld (.slice ya ps.length yc)) (0, 0) _ (HR6.out.later HB5.out) Tryd.underlying27 rfl (by rw [HIZ.out]; exact size_pos) ?_)
        refine (HCH.out w5 (HIY.out.below (Nat.le_refl _) HB5.out)).mono ?_
        rintro e w6 ⟨rfl, hb6⟩
        have HB6 := Lib.hid (HB5.out.trans (hb6.mono HB5.out.size))
        clear hb6
        go_wp2_with (refine wpList_load_row rfl 27 (.tmp 6) rfl b6 rfl 27 (posA h tr ld (.slice ya ps.length yc)) (0, 0) _ (HR6.out.later HB6.out) Tryd.underlying27 rfl (by rw [HIZ.out]; exact size_pos) ?_)
        refine (HLI.out w6 (HIY.out.below (Nat.le_refl _) HB6.out)).mono ?_
        rintro e w7 ⟨rfl, hb7⟩
        have HB7 := Lib.hid (HB6.out.trans (hb7.mono HB6.out.size))
        clear hb7
        go_wp2_with (refine wpList_load_row rfl 27 (.tmp 6) rfl b6 rfl 27 (posA h tr ld (.slice ya ps.length yc)) (0, 0) _ (HR6.out.later HB7.out) Tryd.underlying27 rfl (by rw [HIZ.out]; exact size_pos) ?_)
        refine (HPL.out w7 (HIY.out.below (Nat.le_refl _) HB7.out)).mono ?_
        rintro e w8 ⟨rfl, hb8⟩
        have HB8 := Lib.hid (HB7.out.trans (hb8.mono HB7.out.size))
        clear hb8
        have HN8 := Lib.hid (Row.new w8 27 zeroP)
        have ha := below_setRow ((Below.refl w8.heap.size w8).alloc (Nat.le_refl _) (.cells zeroP 27)) (Nat.le_refl _) zeroP
        have hr : Row ((w8.alloc (.cells zeroP 27)).setRow w8.heap.size zeroP) w8.heap.size 27 zeroP := setRow_heap _ _ _ _ _ _ HN8.out
        have HR17 := Lib.hid hr
        have HB9 := Lib.hid (HB8.out.trans (ha.mono HB8.out.size))
        clear ha hr
        go_upto_region 9 with (refine wpList_store_row rfl 27 (.tmp 17) (.tmp 65) rfl w8.heap.size zeroP rfl rfl 27 _ HN8.out size_pos rfl (by simp [Value.oneCell']) ?_)
        try dsimp only [Act.put]
        generalize (w8.alloc (.cells zeroP 27)).setRow w8.heap.size zeroP = w9 at *
        obtain ⟨b17, hb17⟩ : ∃ b, w8.heap.size = b := ⟨_, rfl⟩
        rw [hb17] at HR17 ⊢
        clear hb17
        go_wp2_with (refine wpList_load_row rfl 27 (.tmp 6) rfl b6 rfl 27 (posA h tr ld (.slice ya ps.length yc)) (0, 0) _ (HR6.out.later HB9.out) Tryd.underlying27 rfl (by rw [HIZ.out]; exact size_pos) ?_)
        refine (HRI.out w9 (HIY.out.below (Nat.le_refl _) HB9.out)).mono ?_
        rintro e w10 ⟨rfl, hb10⟩
        have HB10 := Lib.hid (HB9.out.trans (hb10.mono HB9.out.size))
        have HR17a := Lib.hid (HR17.out.later hb10)
        clear hb10
        have d0 : w10.cell? ⟨b6, 0, none⟩ = some (.int .u64 (h 0 : Int)) := (HR6.out.later HB10.out).cell 0
        have d1 : w10.cell? ⟨b6, 1, none⟩ = some (.int .u64 (h 1 : Int)) := (HR6.out.later HB10.out).cell 1
        have d2 : w10.cell? ⟨b6, 2, none⟩ = some (.int .u64 (h 2 : Int)) := (HR6.out.later HB10.out).cell 2
        have d3 : w10.cell? ⟨b6, 3, none⟩ = some (.int .u64 (h 3 : Int)) := (HR6.out.later HB10.out).cell 3
        have d6 : w10.cell? ⟨b6, 6, none⟩ = some (.slice ya ps.length yc) := (HR6.out.later HB10.out).cell 6
        have f0 : w10.cell? ⟨b2, 0, none⟩ = some (.int .u64 (h 0 : Int)) := (HR22.out.later HB10.out).cell 0
        have f1 : w10.cell? ⟨b2, 1, none⟩ = some (.int .u64 (h 1 : Int)) := (HR22.out.later HB10.out).cell 1
        have f2 : w10.cell? ⟨b2, 2, none⟩ = some (.int .u64 (h 2 : Int)) := (HR22.out.later HB10.out).cell 2
        have f3 : w10.cell? ⟨b2, 3, none⟩ = some (.int .u64 (h 3 : Int)) := (HR22.out.later HB10.out).cell 3
        have f6 : w10.cell? ⟨b2, 6, none⟩ = some (.slice a n cap) := (HR22.out.later HB10.out).cell 6
        have HSC := Lib.hid (law15_sameCards ps ya a ps.length n yc cap w10 (HIY.out.below (Nat.le_refl _) HB10.out) (HZ2.out.below (Nat.le_refl _) HB10.out))
        have heq := fun W => eq_dealR h W
        have g0 : w10.cell? ⟨b17, 0, none⟩ = some (.int .u64 0) := HR17a.out.cell 0
        have g1 : w10.cell? ⟨b17, 1, none⟩ = some (.int .u64 0) := HR17a.out.cell 1
        have g2 : w10.cell? ⟨b17, 2, none⟩ = some (.int .u64 0) := HR17a.out.cell 2
        have g3 : w10.cell? ⟨b17, 3, none⟩ = some (.int .u64 0) := HR17a.out.cell 3
        have g4 : w10.cell? ⟨b17, 4, none⟩ = some (.int .u8 0) := HR17a.out.cell 4
        have g5 : w10.cell? ⟨b17, 5, none⟩ = some (.int .u8 0) := HR17a.out.cell 5
        have g6 : w10.cell? ⟨b17, 6, none⟩ = some (.slice none 0 0) := HR17a.out.cell 6
        have HSM := Lib.hid (fun W => law15_same (fun _ => 0) 0 0 [] none none 0 0 0 0 W (byt_nil W) (byt_nil W))
        simp only [posA, show ((0 : Nat) : Int) = 0 from rfl] at HSM
        go_wp2_with ((with_reducible refine HSC.out.mono ?_); rintro e w' ⟨rfl, rfl⟩)
        refine (HSM.out w10).mono ?_
        rintro e w11 ⟨rfl, hb11⟩
        have HB11 := Lib.hid (HB10.out.trans (hb11.mono HB10.out.size))
        clear hb11
        go_wp2_with fail
        go_ret
        exact ⟨rfl, HBq.out.trans (HB11.out.mono HBq.out.size)⟩
      · have HOK := Lib.hid hR
        clear hR
        have hpt := PosT.of HW.out HOK.out
        have hq3 : pop (h ((ld + ps.length) % 4)) ≤ 3 := H3.out HOK.out _ (Nat.mod_lt _ (by decide))
        have hrp := right_of HW.out HOK.out
        obtain ⟨q, hq⟩ : ∃ q, pop (h ((ld + ps.length) % 4)) = q := ⟨_, rfl⟩
        rw [hq] at hpt hq3 hrp
        have hl3 : ps.length ≤ 3 := Nat.le_of_lt_succ hrp.ok.pk.2
        have hmq : (4 * q - ps.length) + ps.length = 4 * q := by have := hrp.some; omega
        have HPT := Lib.hid hpt.1
        have HT4 := Lib.hid hpt.2
        have HLE := Lib.hid (fun W hz => dm_Left_ok h tr ld ps ya yc HW.out HTR.out.1 HTR.out.2 W hz HOK.out)
        have HSO := Lib.hid (fun W hz hT => dm_Solve_ok h tr ld ps ya yc HW.out HTR.out.1 HTR.out.2 W hz hT q hq (by omega) HOK.out)
        have HCH := Lib.hid (fun W hz hT => dm_Choices_ok h tr ld ps ya yc HW.out HTR.out.1 HTR.out.2 W hz hT q hq (by omega) HOK.out)
        have HLI := Lib.hid (fun W hz hT => dm_Line_ok h tr ld ps ya yc HW.out HTR.out.1 HTR.out.2 W hz hT q hq (by omega) HOK.out)
        have HPL := Lib.hid (fun W hz => dm_Play_any h tr ld ps ya yc card HW.out HTR.out.1 HTR.out.2 hcard W hz HOK.out)
        have HRI := Lib.hid (fun W hz => dm_Right h tr ld ps ya yc HW.out HTR.out.1 HTR.out.2 W hz)
        have HRTU := Lib.hid (fun W => dr_Turn h tr ld ps.length va vc HTR.out.2 (by omega) W)
        have HRSO : Hid (∀ W, Byt W va ps.length ps → Calls Tryd.prog 29 #[.agg (posA h tr ld (.slice va ps.length vc))] W fun e w' => e = .returned (.int .i64 (val tr (4 * q - ps.length) ⟨h, ld, ps⟩ : Int)) ∧ Below W.heap.size W w') := Lib.hid (fun W hz => dr_Solve tr HTR.out.1 (4 * q - ps.length) q ⟨h, ld, ps⟩ HPT.out hmq va vc W hz)
        have HRCH : Hid (∀ W, Byt W va ps.length ps → Calls Tryd.prog 30 #[.agg (posA h tr ld (.slice va ps.length vc))] W fun e w' => ∃ v, e = .returned v ∧ OwnD w' W.heap.size v ((Tb.mk h ld ps).cards.map fun c => (c, worth tr (4 * q - ps.length - 1) ⟨h, ld, ps⟩ c)) ∧ Below W.heap.size W w') := Lib.hid (fun W hz => dr_Choices tr HTR.out.1 (4 * q - ps.length) q ⟨h, ld, ps⟩ HPT.out hmq va vc W hz)
        have HRLI : Hid (∀ W, Byt W va ps.length ps → Calls Tryd.prog 31 #[.agg (posA h tr ld (.slice va ps.length vc))] W fun e w' => ∃ v, e = .returned v ∧ OwnU w' W.heap.size v (lineV tr (4 * q - ps.length) ⟨h, ld, ps⟩) ∧ Below W.heap.size W w') := Lib.hid (fun W hz => dr_Line tr HTR.out.1 (4 * q - ps.length) q ⟨h, ld, ps⟩ HPT.out hmq va vc W hz (Byt.lt hz))
        have HRLG := Lib.hid (fun W hz => dr_Legal h tr ld ps va vc card HW.out HTR.out.2 hcard W hz)
        have HRAF : Hid (Tb.legal ⟨h, ld, ps⟩ card = true → ∀ W, Byt W va ps.length ps → Calls Tryd.prog 33 #[.agg (posA h tr ld (.slice va ps.length vc)), .int .i64 (card : Int)] W (AfterOk ((Tb.mk h ld ps).put tr card).1 tr ((Tb.mk h ld ps).put tr card).2 W)) := Lib.hid (fun hl W hz => dr_After ⟨h, ld, ps⟩ HPT.out.ok HPT.out.uniq tr card HTR.out.1 hl va vc W hz)
        have HPK : Hid (Tb.legal ⟨h, ld, ps⟩ card = true → TbOk ((Tb.mk h ld ps).put tr card).1) := Lib.hid (fun hl => ok_put HPT.out.ok (tr := tr) (show card < 52 from HPT.out.ok.pk.1 _ (Tb.turn_lt _) _ (legal_iff.1 hl).1))
        have HLL := Lib.hid (lineV_len tr (4 * q - ps.length) ⟨h, ld, ps⟩)
        have HLB : Hid (∀ i, (lineV tr (4 * q - ps.length) ⟨h, ld, ps⟩).getD i 0 < 256) := Lib.hid (line_byte tr HPT.out hmq)
        have HBT := Lib.hid (fun W => law15_bits (h ((ld + ps.length) % 4)) (HW.out _) W)
        rw [HOK.out] at HRI
        rw [hq] at HLE HBT
        have HCLN : Hid (((Tb.mk h ld ps).cards.map fun c => (c, worth tr (4 * q - ps.length - 1) ⟨h, ld, ps⟩ c)).length ≤ 52) := Lib.hid (by
          rw [List.length_map]
          exact Nat.le_trans (List.length_filter_le _ _) (by rw [List.length_range]; exact Nat.le_refl _))
        obtain ⟨CL, hCL⟩ : ∃ CL, ((Tb.mk h ld ps).cards.map fun c => (c, worth tr (4 * q - ps.length - 1) ⟨h, ld, ps⟩ c)) = CL := ⟨_, rfl⟩
        rw [hCL] at HCH HRCH HCLN
        obtain ⟨LL, hLL⟩ : ∃ LL, lineV tr (4 * q - ps.length) ⟨h, ld, ps⟩ = LL := ⟨_, rfl⟩
        rw [hLL] at HLI HRLI HLB HLL
        obtain ⟨V, hV⟩ : ∃ V, val tr (4 * q - ps.length) ⟨h, ld, ps⟩ = V := ⟨_, rfl⟩
        have hV6 : V ≤ 6 := by rw [← hV]; have := val_le tr (4 * q - ps.length) q ⟨h, ld, ps⟩ (by show ps.length < 4; omega) HPT.out.evn hmq; omega
        rw [hV] at HSO HRSO
        obtain ⟨⟨u, won⟩, hu⟩ : ∃ u, (Tb.mk h ld ps).put tr card = u := ⟨_, rfl⟩
        unfold PlayAny at HPL
        rw [hu] at HPL HRAF HPK
        obtain ⟨s, hs⟩ : ∃ s, (ld + ps.length) % 4 = s := ⟨_, rfl⟩
        have hs4 : s < 4 := by omega
        have hs4i : (s : Int) < 4 := by omega
        rw [hs] at HLE HRTU HBT
        have HPA := Lib.hid HQE.out
        rw [HPA.out] at HRSO HRCH HRLI HRLG HRAF
        have HRTL := Lib.hid HRTU.out
        unfold posA at HRTL
        have HRSL := Lib.hid HRSO.out
        have HRLL := Lib.hid HRLI.out
        rw [← HPA.out] at HRSL HRLL
        unfold posA at HRSL HRLL
        clear hpt hq hrp hl3 hmq hCL hLL hV hu hs
        go_wp2_with (refine wpList_load_row rfl 27 (.tmp 6) rfl b6 rfl 27 (posA h tr ld (.slice ya ps.length yc)) (0, 0) _ (HR6.out.later HB3.out) Tryd.underlying27 rfl (by rw [HIZ.out]; exact size_pos) ?_)
        refine (HLE.out w3 (HIY.out.below (Nat.le_refl _) HB3.out)).mono ?_
        rintro e w4 ⟨rfl, hb4⟩
        have HB4 := Lib.hid (HB3.out.trans (hb4.mono HB3.out.size))
        clear hb4
        go_wp2_with (refine wpList_load_row rfl 27 (.tmp 6) rfl b6 rfl 27 (posA h tr ld (.slice ya ps.length yc)) (0, 0) _ (HR6.out.later HB4.out) Tryd.underlying27 rfl (by rw [HIZ.out]; exact size_pos) ?_)
        refine (HSO.out w4 (HIY.out.below (Nat.le_refl _) HB4.out) (HT2.out.below HT2.out.pos HB4.out)).mono ?_
        rintro e w5 ⟨rfl, hb5⟩
        have HB5 := Lib.hid (HB4.out.trans (hb5.mono HB4.out.size))
        clear hb5
        go_wp2_with (refine wpList_load_row rfl 27 (.tmp 6) rfl b6 rfl 27 (posA h tr ld (.slice ya ps.length yc)) (0, 0) _ (HR6.out.later HB5.out) Tryd.underlying27 rfl (by rw [HIZ.out]; exact size_pos) ?_)
        refine (HCH.out w5 (HIY.out.below (Nat.le_refl _) HB5.out) (HT2.out.below HT2.out.pos HB5.out)).mono ?_
        rintro e w6 ⟨cv, rfl, hcv, hb6⟩
        have HB6 := Lib.hid (HB5.out.trans (hb6.mono HB5.out.size))
        have HCV6 := Lib.hid hcv
        obtain ⟨ca, cc, rfl, hca⟩ := hcv.slice
        clear hcv
        clear hb6
        go_wp2_with (refine wpList_load_row rfl 27 (.tmp 6) rfl b6 rfl 27 (posA h tr ld (.slice ya ps.length yc)) (0, 0) _ (HR6.out.later HB6.out) Tryd.underlying27 rfl (by rw [HIZ.out]; exact size_pos) ?_)
        refine (HLI.out w6 (HIY.out.below (Nat.le_refl _) HB6.out) (HT2.out.below HT2.out.pos HB6.out)).mono ?_
        rintro e w7 ⟨lv, rfl, hlv, hb7⟩
        have HB7 := Lib.hid (HB6.out.trans (hb7.mono HB6.out.size))
        have HLV7 := Lib.hid hlv
        have HCV7 := Lib.hid (HCV6.out.below hb7)
        obtain ⟨la, lc, rfl, -⟩ := hlv.slice
        clear hlv
        clear hb7
        go_wp2_with (refine wpList_load_row rfl 27 (.tmp 6) rfl b6 rfl 27 (posA h tr ld (.slice ya ps.length yc)) (0, 0) _ (HR6.out.later HB7.out) Tryd.underlying27 rfl (by rw [HIZ.out]; exact size_pos) ?_)
        refine (HPL.out w7 (HIY.out.below (Nat.le_refl _) HB7.out)).mono ?_
        rintro e w8 ⟨NA, wn, er, rfl, hb8, hnz, hno, hcase⟩
        have HB8 := Lib.hid (HB7.out.trans (hb8.mono HB7.out.size))
        have HCV8 := Lib.hid (HCV7.out.below hb8)
        have HLV8 := Lib.hid (HLV7.out.below hb8)
        have HNA := Lib.hid (And.intro hnz hno)
        have HCASE := Lib.hid hcase
        have HS78 := Lib.hid hb8.size
        clear hb8 hnz hno hcase
        have HN8 := Lib.hid (Row.new w8 27 zeroP)
        have ha := below_setRow ((Below.refl w8.heap.size w8).alloc (Nat.le_refl _) (.cells zeroP 27)) (Nat.le_refl _) NA
        have hr : Row ((w8.alloc (.cells zeroP 27)).setRow w8.heap.size NA) w8.heap.size 27 NA := setRow_heap _ _ _ _ _ _ HN8.out
        have HR17 := Lib.hid hr
        have HB9 := Lib.hid (HB8.out.trans (ha.mono HB8.out.size))
        have HB89 := Lib.hid ha
        clear ha hr
        go_upto_region 9 with (refine wpList_store_row rfl 27 (.tmp 17) (.tmp 65) rfl w8.heap.size NA rfl rfl 27 _ HN8.out (by rw [HNA.out.1]; exact size_pos) (by rw [HNA.out.1]; rfl) HNA.out.2 ?_)
        try dsimp only [Act.put]
        generalize (w8.alloc (.cells zeroP 27)).setRow w8.heap.size NA = w9 at *
        obtain ⟨b17, hb17⟩ : ∃ b, w8.heap.size = b := ⟨_, rfl⟩
        have HB17 := Lib.hid hb17
        rw [hb17] at HR17 ⊢
        clear hb17
        go_wp2_with (refine wpList_load_row rfl 27 (.tmp 6) rfl b6 rfl 27 (posA h tr ld (.slice ya ps.length yc)) (0, 0) _ (HR6.out.later HB9.out) Tryd.underlying27 rfl (by rw [HIZ.out]; exact size_pos) ?_)
        refine (HRI.out w9 (HIY.out.below (Nat.le_refl _) HB9.out)).mono ?_
        rintro e w10 ⟨rfl, hb10⟩
        have HB10 := Lib.hid (HB9.out.trans (hb10.mono HB9.out.size))
        have HF10 := Lib.hid hb10
        clear hb10
        have d0 : w10.cell? ⟨b6, 0, none⟩ = some (.int .u64 (h 0 : Int)) := (HR6.out.later HB10.out).cell 0
        have d1 : w10.cell? ⟨b6, 1, none⟩ = some (.int .u64 (h 1 : Int)) := (HR6.out.later HB10.out).cell 1
        have d2 : w10.cell? ⟨b6, 2, none⟩ = some (.int .u64 (h 2 : Int)) := (HR6.out.later HB10.out).cell 2
        have d3 : w10.cell? ⟨b6, 3, none⟩ = some (.int .u64 (h 3 : Int)) := (HR6.out.later HB10.out).cell 3
        have d6 : w10.cell? ⟨b6, 6, none⟩ = some (.slice ya ps.length yc) := (HR6.out.later HB10.out).cell 6
        have f0 : w10.cell? ⟨b2, 0, none⟩ = some (.int .u64 (h 0 : Int)) := (HR22.out.later HB10.out).cell 0
        have f1 : w10.cell? ⟨b2, 1, none⟩ = some (.int .u64 (h 1 : Int)) := (HR22.out.later HB10.out).cell 1
        have f2 : w10.cell? ⟨b2, 2, none⟩ = some (.int .u64 (h 2 : Int)) := (HR22.out.later HB10.out).cell 2
        have f3 : w10.cell? ⟨b2, 3, none⟩ = some (.int .u64 (h 3 : Int)) := (HR22.out.later HB10.out).cell 3
        have f6 : w10.cell? ⟨b2, 6, none⟩ = some (.slice a n cap) := (HR22.out.later HB10.out).cell 6
        have HSC := Lib.hid (law15_sameCards ps ya a ps.length n yc cap w10 (HIY.out.below (Nat.le_refl _) HB10.out) (HZ2.out.below (Nat.le_refl _) HB10.out))
        have heq := fun W => eq_dealR h W
        go_upto_region 13 with ((with_reducible refine HSC.out.mono ?_); rintro e w' ⟨rfl, rfl⟩)
        clear d0 d1 d2 d3 d6 f0 f1 f2 f3 f6 heq
        have e0 : w10.cell? ⟨b5, 0, none⟩ = some (.int .u64 (h 0 : Int)) := ((HRq2.out.later HB10.out).cell 0).trans (by rw [← HPA.out]; rfl)
        have e1 : w10.cell? ⟨b5, 1, none⟩ = some (.int .u64 (h 1 : Int)) := ((HRq2.out.later HB10.out).cell 1).trans (by rw [← HPA.out]; rfl)
        have e2 : w10.cell? ⟨b5, 2, none⟩ = some (.int .u64 (h 2 : Int)) := ((HRq2.out.later HB10.out).cell 2).trans (by rw [← HPA.out]; rfl)
        have e3 : w10.cell? ⟨b5, 3, none⟩ = some (.int .u64 (h 3 : Int)) := ((HRq2.out.later HB10.out).cell 3).trans (by rw [← HPA.out]; rfl)
        have e4 : w10.cell? ⟨b5, 4, none⟩ = some (.int .u8 (tr : Int)) := ((HRq2.out.later HB10.out).cell 4).trans (by rw [← HPA.out]; rfl)
        have e5 : w10.cell? ⟨b5, 5, none⟩ = some (.int .u8 (ld : Int)) := ((HRq2.out.later HB10.out).cell 5).trans (by rw [← HPA.out]; rfl)
        have e6 : w10.cell? ⟨b5, 6, none⟩ = some (.slice va ps.length vc) := ((HRq2.out.later HB10.out).cell 6).trans (by rw [← HPA.out]; rfl)
        go_wp2_with fail
        refine (HRTL.out w10).mono ?_
        rintro e w11 ⟨rfl, hb11⟩
        have HB11 := Lib.hid (HB10.out.trans (hb11.mono HB10.out.size))
        have HF11 := Lib.hid (HF10.out.trans (hb11.mono HF10.out.size))
        clear hb11 e0 e1 e2 e3 e4 e5 e6
        have e0 : w11.cell? ⟨b5, 0, none⟩ = some (.int .u64 (h 0 : Int)) := ((HRq2.out.later HB11.out).cell 0).trans (by rw [← HPA.out]; rfl)
        have e1 : w11.cell? ⟨b5, 1, none⟩ = some (.int .u64 (h 1 : Int)) := ((HRq2.out.later HB11.out).cell 1).trans (by rw [← HPA.out]; rfl)
        have e2 : w11.cell? ⟨b5, 2, none⟩ = some (.int .u64 (h 2 : Int)) := ((HRq2.out.later HB11.out).cell 2).trans (by rw [← HPA.out]; rfl)
        have e3 : w11.cell? ⟨b5, 3, none⟩ = some (.int .u64 (h 3 : Int)) := ((HRq2.out.later HB11.out).cell 3).trans (by rw [← HPA.out]; rfl)
        have e4 : w11.cell? ⟨b5, 4, none⟩ = some (.int .u8 (tr : Int)) := ((HRq2.out.later HB11.out).cell 4).trans (by rw [← HPA.out]; rfl)
        have e5 : w11.cell? ⟨b5, 5, none⟩ = some (.int .u8 (ld : Int)) := ((HRq2.out.later HB11.out).cell 5).trans (by rw [← HPA.out]; rfl)
        have e6 : w11.cell? ⟨b5, 6, none⟩ = some (.slice va ps.length vc) := ((HRq2.out.later HB11.out).cell 6).trans (by rw [← HPA.out]; rfl)
        have fs : w11.cell? ⟨b2, s, none⟩ = some (.int .u64 (h s : Int)) := ((HR22.out.later HB11.out).cell s).trans (posA_h _ _ _ _ hs4)
        go_wp2_with ((with_reducible refine (HBT.out _).mono ?_); rintro e w' ⟨rfl, rfl⟩)
        refine (HRTL.out w11).mono ?_
        rintro e w12 ⟨rfl, hb12⟩
        have HB12 := Lib.hid (HB11.out.trans (hb12.mono HB11.out.size))
        have HF12 := Lib.hid (HF11.out.trans (hb12.mono HF11.out.size))
        clear hb12 e0 e1 e2 e3 e4 e5 e6 fs
        have e0 : w12.cell? ⟨b5, 0, none⟩ = some (.int .u64 (h 0 : Int)) := ((HRq2.out.later HB12.out).cell 0).trans (by rw [← HPA.out]; rfl)
        have e1 : w12.cell? ⟨b5, 1, none⟩ = some (.int .u64 (h 1 : Int)) := ((HRq2.out.later HB12.out).cell 1).trans (by rw [← HPA.out]; rfl)
        have e2 : w12.cell? ⟨b5, 2, none⟩ = some (.int .u64 (h 2 : Int)) := ((HRq2.out.later HB12.out).cell 2).trans (by rw [← HPA.out]; rfl)
        have e3 : w12.cell? ⟨b5, 3, none⟩ = some (.int .u64 (h 3 : Int)) := ((HRq2.out.later HB12.out).cell 3).trans (by rw [← HPA.out]; rfl)
        have e4 : w12.cell? ⟨b5, 4, none⟩ = some (.int .u8 (tr : Int)) := ((HRq2.out.later HB12.out).cell 4).trans (by rw [← HPA.out]; rfl)
        have e5 : w12.cell? ⟨b5, 5, none⟩ = some (.int .u8 (ld : Int)) := ((HRq2.out.later HB12.out).cell 5).trans (by rw [← HPA.out]; rfl)
        have e6 : w12.cell? ⟨b5, 6, none⟩ = some (.slice va ps.length vc) := ((HRq2.out.later HB12.out).cell 6).trans (by rw [← HPA.out]; rfl)
        go_wp2_with fail
        refine (HRSL.out w12 (HQY2.out.below (Nat.le_refl _) HB12.out)).mono ?_
        rintro e w13 ⟨rfl, hb13⟩
        have HB13 := Lib.hid (HB12.out.trans (hb13.mono HB12.out.size))
        have HF13 := Lib.hid (HF12.out.trans (hb13.mono HF12.out.size))
        clear hb13 e0 e1 e2 e3 e4 e5 e6
        go_wp2_with (refine wpList_load_row rfl 50 (.tmp 5) rfl b5 rfl 50 QA (0, 0) _ (HRq2.out.later HB13.out) Tryd.underlying50 rfl (by rw [HQZ.out.1]; exact size_rpos) ?_)
        refine (HRCH.out w13 (HQY2.out.below (Nat.le_refl _) HB13.out)).mono ?_
        rintro e w14 ⟨dv, rfl, hdv, hb14⟩
        have HB14 := Lib.hid (HB13.out.trans (hb14.mono HB13.out.size))
        have HF14 := Lib.hid (HF13.out.trans (hb14.mono HF13.out.size))
        have HDV14 := Lib.hid hdv
        obtain ⟨da, dc, rfl, hda⟩ := hdv.slice
        clear hb14 hdv
        have e0 : w14.cell? ⟨b5, 0, none⟩ = some (.int .u64 (h 0 : Int)) := ((HRq2.out.later HB14.out).cell 0).trans (by rw [← HPA.out]; rfl)
        have e1 : w14.cell? ⟨b5, 1, none⟩ = some (.int .u64 (h 1 : Int)) := ((HRq2.out.later HB14.out).cell 1).trans (by rw [← HPA.out]; rfl)
        have e2 : w14.cell? ⟨b5, 2, none⟩ = some (.int .u64 (h 2 : Int)) := ((HRq2.out.later HB14.out).cell 2).trans (by rw [← HPA.out]; rfl)
        have e3 : w14.cell? ⟨b5, 3, none⟩ = some (.int .u64 (h 3 : Int)) := ((HRq2.out.later HB14.out).cell 3).trans (by rw [← HPA.out]; rfl)
        have e4 : w14.cell? ⟨b5, 4, none⟩ = some (.int .u8 (tr : Int)) := ((HRq2.out.later HB14.out).cell 4).trans (by rw [← HPA.out]; rfl)
        have e5 : w14.cell? ⟨b5, 5, none⟩ = some (.int .u8 (ld : Int)) := ((HRq2.out.later HB14.out).cell 5).trans (by rw [← HPA.out]; rfl)
        have e6 : w14.cell? ⟨b5, 6, none⟩ = some (.slice va ps.length vc) := ((HRq2.out.later HB14.out).cell 6).trans (by rw [← HPA.out]; rfl)
        go_wp2_with fail
        refine (HRLL.out w14 (HQY2.out.below (Nat.le_refl _) HB14.out)).mono ?_
        rintro e w15 ⟨lv2, rfl, hlv2, hb15⟩
        have HB15 := Lib.hid (HB14.out.trans (hb15.mono HB14.out.size))
        have HF15 := Lib.hid (HF14.out.trans (hb15.mono HF14.out.size))
        have HLV2 := Lib.hid hlv2
        have HDV15 := Lib.hid (HDV14.out.below hb15)
        obtain ⟨la2, lc2, rfl, -⟩ := hlv2.slice
        clear hlv2
        clear hb15 e0 e1 e2 e3 e4 e5 e6
        have HCV15 := Lib.hid ((HCV8.out.below HB89.out).below HF15.out)
        have HLV15 := Lib.hid ((HLV8.out.below HB89.out).below HF15.out)
        have HSC2 : Hid (Calls Tryd.prog 26 #[.slice la LL.length lc, .slice la2 LL.length lc2] w15 fun e w' => e = .returned (.bool true) ∧ w15 = w') := Lib.hid (by
          obtain ⟨x1, y1, e1, -, -, -, -, hb1⟩ := OwnU.byt HLV15.out (by rw [HLL.out]; omega) HLB.out
          obtain ⟨x2, y2, e2, -, -, -, -, hb2⟩ := OwnU.byt HLV2.out (by rw [HLL.out]; omega) HLB.out
          injection e1 with e1 _ e1c
          injection e2 with e2 _ e2c
          subst e1 e2
          exact law15_sameCards LL la la2 LL.length LL.length lc lc2 w15 hb1 hb2)
        go_upto_region 18 with ((with_reducible refine HSC2.out.mono ?_); rintro e w' ⟨rfl, rfl⟩)
        clear hV6 hs4 hs4i hq3
        have HN := Lib.hid HCLN.out
        obtain ⟨N, hN⟩ : ∃ N, CL.length = N := ⟨_, rfl⟩
        have HNE := Lib.hid hN
        rw [hN] at HN HCV15 HDV15 ⊢
        clear hN
        have HB15w := Lib.hid HB15.out
        go_wp2_with fail
        go_loopg [21, 183] N (fun g _ i wx => ∃ k : Nat, g = N - k ∧ k ≤ N ∧ i = .int .i64 (k : Int) ∧ Below w15.heap.size w15 wx)
        case atStart => exact ⟨0, rfl, Nat.zero_le _, rfl, Below.refl _ _⟩
        case round =>
          obtain ⟨k, rfl, hk, rfl, hbx⟩ := hrel
          have HBX := Lib.hid hbx
          have HBr := Lib.hid (HB15.out.trans (hbx.mono HB15.out.size))
          have HFr := Lib.hid (HF15.out.trans (hbx.mono HF15.out.size))
          clear hbx
          by_cases hkN : k < N
          · have hCL0 : CL ≠ [] := fun e => by have := HNE.out; rw [e] at this; simp at this; omega
            obtain ⟨gc, hgc⟩ := hca hCL0
            obtain ⟨gd, hgd⟩ := hda hCL0
            obtain ⟨x, hx⟩ : ∃ x, CL[k]? = some x := ⟨_, List.getElem?_eq_getElem (by rw [HNE.out]; exact hkN)⟩
            subst hgc hgd
            have HRC := Lib.hid (owns_range (HCV15.out.below HBX.out) hx)
            have HRD := Lib.hid (owns_range (HDV15.out.below HBX.out) hx)
            have HGC := Lib.hid (show gc < wr.heap.size ∧ gd < wr.heap.size from ⟨(Owns.block (HCV15.out.below HBX.out) rfl).2, (Owns.block (HDV15.out.below HBX.out) rfl).2⟩)
            have hki : (k : Int) < (N : Int) := by omega
            have hN52 := HN.out
            have heq := fun W => eq_choice (x.1 : Int) (x.2 : Int) W
            clear hkN hCL0 hx
            go_wp2_with fail
            refine wp_region_quiet_below (by kernel_rfl) (by kernel_rfl) ?_
            repeat (first
              | (refine quiet_mid rfl 43 (.tmp 188) rfl gc (k * 2) rfl (cs := [.int .u8 (x.1 : Int), .int .i64 (x.2 : Int)]) (fun w' hw' => by obtain ⟨p, rfl⟩ := hw'; exact range_below HRC.out (below_regrown _ _ _) HGC.out.1) Tryd.underlying43 rfl size_ch ?_)
              | (refine quiet_mid rfl 65 (.tmp 192) rfl gd (k * 2) rfl (cs := [.int .u8 (x.1 : Int), .int .i64 (x.2 : Int)]) (fun w' hw' => by obtain ⟨p, rfl⟩ := hw'; exact range_below HRD.out (below_regrown _ _ _) HGC.out.2) Tryd.underlying65 rfl size_rch ?_)
              | quiet_step (fail))
            refine wpQuiet_nil ?_
            rintro _ ⟨p, rfl⟩
            have HBy := Lib.hid (HBX.out.trans ((below_regrown wr p.d p.os).mono HBX.out.size))
            generalize grow (redrawn wr p.d) p.os = wb at *
            clear heq
            go_wp2_with fail
            go_roundg (N - (k + 1))
            case measure => omega
            case rel => exact ⟨k + 1, rfl, by omega, by simp, HBy.out⟩
          · obtain rfl : k = N := by omega
            have HBk := Lib.hid (HBX.out)
            have heqN : decide ((k : Int) < (k : Int)) = false := by simp
            clear hkN hk
            go_wp2_with (refine wpList_load_row rfl 50 (.tmp 5) rfl b5 rfl 50 QA (0, 0) _ (HRq2.out.later HBr.out) Tryd.underlying50 rfl (by rw [HQZ.out.1]; exact size_rpos) ?_)
            refine (HRLG.out wr (HQY2.out.below (Nat.le_refl _) HBr.out)).mono ?_
            rintro e w16 ⟨rfl, hb16⟩
            have HB16 := Lib.hid (HBr.out.trans (hb16.mono HBr.out.size))
            have HF16 := Lib.hid (HFr.out.trans (hb16.mono HFr.out.size))
            have HR17b := Lib.hid (HR17.out.later (HF16.out))
            clear hb16 heqN
            rcases HCASE.out with ⟨hleg, rfl, rfl, rfl⟩ | ⟨hleg, rfl, rfl, nv, hnv, hov⟩
            · rw [hleg]
              clear hleg
              have g0 : w16.cell? ⟨b17, 0, none⟩ = some (.int .u64 0) := HR17b.out.cell 0
              have g1 : w16.cell? ⟨b17, 1, none⟩ = some (.int .u64 0) := HR17b.out.cell 1
              have g2 : w16.cell? ⟨b17, 2, none⟩ = some (.int .u64 0) := HR17b.out.cell 2
              have g3 : w16.cell? ⟨b17, 3, none⟩ = some (.int .u64 0) := HR17b.out.cell 3
              have g4 : w16.cell? ⟨b17, 4, none⟩ = some (.int .u8 0) := HR17b.out.cell 4
              have g5 : w16.cell? ⟨b17, 5, none⟩ = some (.int .u8 0) := HR17b.out.cell 5
              have g6 : w16.cell? ⟨b17, 6, none⟩ = some (.slice none 0 0) := HR17b.out.cell 6
              have HSM := Lib.hid (fun W => law15_same (fun _ => 0) 0 0 [] none none 0 0 0 0 W (byt_nil W) (byt_nil W))
              simp only [posA, show ((0 : Nat) : Int) = 0 from rfl] at HSM
              simp only [show ((0 : Nat) : Int) = 0 from rfl, show ((6 : Nat) : Int) = 6 from rfl]
              go_wp2_with fail
              refine (HSM.out w16).mono ?_
              rintro e w17 ⟨rfl, hb17⟩
              have HB17e := Lib.hid (HB16.out.trans (hb17.mono HB16.out.size))
              clear hb17
              go_wp2_with fail
              go_ret
              exact ⟨rfl, HBq.out.trans (HB17e.out.mono HBq.out.size)⟩
            · rw [hleg]
              have HAF := Lib.hid (fun W hz => HRAF.out hleg W hz)
              have HUK := Lib.hid (HPK.out hleg)
              clear hleg
              dsimp only at HAF HUK hnv hov ⊢
              obtain ⟨na, nc, rfl, hna⟩ := hov.slice
              have HNV9 := Lib.hid (hov.below HB89.out)
              have HNVB := Lib.hid (fun g (hg : (Value.slice na u.cs.length nc).ownBlock = some g) => show w7.heap.size ≤ g ∧ g < b17 from ⟨(World.ownsRow.lt hov.2 g hg).1, by have := own_lt hov hg; rw [← HB17.out]; exact this⟩)
              have HNAE := Lib.hid hnv
              have HU3 := Lib.hid HUK.out.pk.2
              clear hov hnv
              simp only [show ((0 : Nat) : Int) = 0 from rfl]
              go_wp2_with (refine wpList_load_row rfl 50 (.tmp 5) rfl b5 rfl 50 QA (0, 0) _ (HRq2.out.later HB16.out) Tryd.underlying50 rfl (by rw [HQZ.out.1]; exact size_rpos) ?_)
              refine (HAF.out w16 (HQY2.out.below (Nat.le_refl _) HB16.out)).mono ?_
              rintro e w17 ⟨v2, rfl, hv2, hb17⟩
              have HBs := Lib.hid (HB16.out.trans (hb17.mono HB16.out.size))
              have HFs := Lib.hid (HF16.out.trans (hb17.mono HF16.out.size))
              have HV2 := Lib.hid hv2
              obtain ⟨x2, y2, rfl, -⟩ := hv2.slice
              have HSz := Lib.hid hb17.size
              clear hv2 hb17
              have HQB : Hid ((posA u.h tr u.ld (.slice x2 u.cs.length y2)).size = 7 ∧ (posA u.h tr u.ld (.slice x2 u.cs.length y2)).all (·.oneCell') = true) := Lib.hid ⟨rfl, by simp [posA, Value.oneCell']⟩
              have HNs := Lib.hid (Row.new w17 50 zeroP)
              have ha := below_setRow ((Below.refl w17.heap.size w17).alloc (Nat.le_refl _) (.cells zeroP 50)) (Nat.le_refl _) (posA u.h tr u.ld (.slice x2 u.cs.length y2))
              have hr : Row ((w17.alloc (.cells zeroP 50)).setRow w17.heap.size (posA u.h tr u.ld (.slice x2 u.cs.length y2))) w17.heap.size 50 (posA u.h tr u.ld (.slice x2 u.cs.length y2)) := setRow_heap _ _ _ _ _ _ HNs.out
              have HR22b := Lib.hid hr
              have HBt := Lib.hid (HBs.out.trans (ha.mono HBs.out.size))
              have HFt := Lib.hid (HFs.out.trans (ha.mono HFs.out.size))
              have HV2t := Lib.hid (HV2.out.below ha)
              clear ha hr
              go_upto_region 27 with (refine wpList_store_row rfl 50 (.tmp 22) (.tmp 217) rfl w17.heap.size (posA u.h tr u.ld (.slice x2 u.cs.length y2)) rfl rfl 50 _ HNs.out (by rw [HQB.out.1]; exact size_rpos) (by rw [HQB.out.1]; rfl) HQB.out.2 ?_)
              try dsimp only [Act.put]
              generalize (w17.alloc (.cells zeroP 50)).setRow w17.heap.size (posA u.h tr u.ld (.slice x2 u.cs.length y2)) = w18 at *
              obtain ⟨b22, hb22⟩ : ∃ b, w17.heap.size = b := ⟨_, rfl⟩
              have HB22 := Lib.hid (show b17 < b22 ∧ w16.heap.size ≤ b22 from by
                have h1 := HR17.out.lt
                have h2 := HFs.out.size
                have h3 := HR17b.out.lt
                rw [← hb22]
                exact ⟨by omega, HSz.out⟩)
              rw [hb22] at HR22b ⊢
              clear hb22
              have HNVt := Lib.hid (HNV9.out.below HFt.out)
              have HR17t := Lib.hid (HR17.out.later HFt.out)
              obtain ⟨un, hun⟩ : ∃ n, u.cs.length = n := ⟨_, rfl⟩
              have HUN := Lib.hid hun
              obtain ⟨gn, hgn, hgb⟩ : ∃ gn, (0 < un → na = some ⟨gn, 0, none⟩) ∧ ((w7.heap.size ≤ gn ∧ gn < b17) ∨ w18.heap.size ≤ gn) := by
                by_cases h0 : u.cs = []
                · exact ⟨w18.heap.size, (fun h => by rw [← hun, h0] at h; simp at h), .inr (Nat.le_refl _)⟩
                · obtain ⟨g, hg⟩ := hna h0
                  exact ⟨g, fun _ => hg, .inl (HNVB.out g (by rw [hg]; rfl))⟩
              have HGN := Lib.hid hgn
              have HGB := Lib.hid hgb
              have hun3 : un ≤ 3 := by have := HU3.out; omega
              have HLT := Lib.hid (show b17 < w18.heap.size ∧ b22 < w18.heap.size from ⟨HR17t.out.lt, HR22b.out.lt⟩)
              have HXC : Hid (∀ k x, u.cs[k]? = some x → x < 52) := Lib.hid fun k x hx => HUK.out.c52 x (List.mem_of_getElem? hx)
              rw [hun] at HNVt HR22b HV2t HNAE ⊢
              clear hun hgn hgb hna
              have c6 : w18.cell? ⟨b17, 6, none⟩ = some (.slice na un nc) := (HR17t.out.cell 6).trans (by rw [HNAE.out]; rfl)
              go_wp2_with fail
              clear c6
              go_loopg [24, 222] un (fun g _ i wx => ∃ k : Nat, g = un - k ∧ k ≤ un ∧ i = .int .i64 (k : Int) ∧ But w18.heap.size gn w18 wx ∧ OwnU wx w7.heap.size (.slice na un nc) u.cs)
              case atStart => exact ⟨0, rfl, Nat.zero_le _, rfl, But.refl _ _ _, HNVt.out⟩
              case round =>
                obtain ⟨k, rfl, hk, rfl, hbt, how⟩ := hrel
                have HBT' := Lib.hid hbt
                have HOW := Lib.hid how
                have hne17 : b17 ≠ gn := by have := HGB.out; have := HLT.out; omega
                have HR17r := Lib.hid (But.row HR17t.out hbt HLT.out.1 hne17)
                have c6 : wr.cell? ⟨b17, 6, none⟩ = some (.slice na un nc) := (HR17r.out.cell 6).trans (by rw [HNAE.out]; rfl)
                by_cases hkn : k < un
                · obtain rfl := HGN.out (by omega)
                  obtain ⟨x, hx⟩ : ∃ x, u.cs[k]? = some x := ⟨_, List.getElem?_eq_getElem (by rw [HUN.out]; exact hkn)⟩
                  have hx52 := HXC.out k x hx
                  have hget : u.cs.getD k 0 = x := by rw [List.getD_eq_getElem?_getD, hx]; rfl
                  obtain ⟨cx, fx⟩ := ownU_at how (k := k) (by rw [HUN.out]; exact hkn)
                  rw [hget] at cx
                  have hki : (k : Int) < (un : Int) := by omega
                  obtain ⟨y, hy⟩ : ∃ y, x + 1 = y := ⟨_, rfl⟩
                  have hyi : (x : Int) + 1 = (y : Int) := by omega
                  have hy256 : y < 256 := by omega
                  have HO1 := Lib.hid (ownU_put how (k := k) (by rw [HUN.out]; exact hkn) y)
                  have HR171 := Lib.hid (HR17r.out.other (B' := gn) (i := k) (v := .int .u8 (y : Int)) hne17)
                  have HBT1 := Lib.hid (hbt.trans (But.setCell (B := w18.heap.size) (Bm := gn) wr k (.int .u8 (y : Int))))
                  have HX := Lib.hid hx
                  clear hbt how hget hx hy
                  go_upto_region 31 with fail
                  clear cx fx c6
                  generalize wr.setCell ⟨gn, k, none⟩ (.int .u8 (y : Int)) = wy at *
                  have hl1 : k < (u.cs.set k y).length := by rw [List.length_set, HUN.out]; exact hkn
                  have hget : (u.cs.set k y).getD k 0 = y := by rw [List.getD_eq_getElem?_getD, List.getElem?_set_self (by rw [HUN.out]; exact hkn)]; rfl
                  obtain ⟨cy, fy⟩ := ownU_at HO1.out (k := k) hl1
                  rw [hget] at cy
                  have c6 : wy.cell? ⟨b17, 6, none⟩ = some (.slice (some ⟨gn, 0, none⟩) un nc) := (HR171.out.cell 6).trans (by rw [HNAE.out]; rfl)
                  have hyx : (y : Int) - 1 = (x : Int) := by omega
                  have hO2 := ownU_put HO1.out (k := k) hl1 x
                  rw [set_back _ _ _ _ HX.out] at hO2
                  have HO2 := Lib.hid hO2
                  have HBT2 := Lib.hid (HBT1.out.trans (But.setCell (B := w18.heap.size) (Bm := gn) wy k (.int .u8 (x : Int))))
                  clear hget hO2 hyi hl1
                  go_wp2_with fail
                  go_roundg (un - (k + 1))
                  case measure => omega
                  case rel => exact ⟨k + 1, rfl, by omega, by simp, HBT2.out, HO2.out⟩
                · obtain rfl : k = un := by omega
                  have hkk : decide ((k : Int) < (k : Int)) = false := by simp
                  have hne22 : b22 ≠ gn := by have := HGB.out; have := HLT.out; have := HB22.out; omega
                  have HR22r := Lib.hid (But.row HR22b.out hbt HLT.out.2 hne22)
                  have hv2o : OwnU wr w16.heap.size (.slice x2 k y2) u.cs := Owns.kept HV2t.out (hbt.grown (Nat.le_refl _)) (.inl fun e => by
                    have h1 := (World.ownsRow.lt HV2t.out.2 gn e.symm)
                    have h2 := HR17b.out.lt
                    have := HGB.out
                    omega)
                  have hsm : Calls Tryd.prog 27 #[.agg (posA u.h tr u.ld (.slice na k nc)), .agg (posA u.h tr u.ld (.slice x2 k y2))] wr fun e w' => e = .returned (.bool true) ∧ Below wr.heap.size wr w' := by
                    have hb256 : ∀ i, u.cs.getD i 0 < 256 := fun i => by have := HUK.out.getD i; omega
                    obtain ⟨p1, q1, e1, -, -, -, -, hb1⟩ := OwnU.byt how (by rw [HUN.out]; omega) hb256
                    obtain ⟨p2, q2, e2, -, -, -, -, hb2⟩ := OwnU.byt hv2o (by rw [HUN.out]; omega) hb256
                    injection e1 with e1 _ e1c
                    injection e2 with e2 _ e2c
                    rw [HUN.out] at hb1 hb2
                    subst e1 e2
                    exact law15_same u.h tr u.ld u.cs na x2 k k nc y2 wr hb1 hb2
                  have HSM := Lib.hid hsm
                  unfold posA at HSM
                  have g0 : wr.cell? ⟨b17, 0, none⟩ = some (.int .u64 (u.h 0 : Int)) := (HR17r.out.cell 0).trans (by rw [HNAE.out]; rfl)
                  have g1 : wr.cell? ⟨b17, 1, none⟩ = some (.int .u64 (u.h 1 : Int)) := (HR17r.out.cell 1).trans (by rw [HNAE.out]; rfl)
                  have g2 : wr.cell? ⟨b17, 2, none⟩ = some (.int .u64 (u.h 2 : Int)) := (HR17r.out.cell 2).trans (by rw [HNAE.out]; rfl)
                  have g3 : wr.cell? ⟨b17, 3, none⟩ = some (.int .u64 (u.h 3 : Int)) := (HR17r.out.cell 3).trans (by rw [HNAE.out]; rfl)
                  have g4 : wr.cell? ⟨b17, 4, none⟩ = some (.int .u8 (tr : Int)) := (HR17r.out.cell 4).trans (by rw [HNAE.out]; rfl)
                  have g5 : wr.cell? ⟨b17, 5, none⟩ = some (.int .u8 (u.ld : Int)) := (HR17r.out.cell 5).trans (by rw [HNAE.out]; rfl)
                  have r0 : wr.cell? ⟨b22, 0, none⟩ = some (.int .u64 (u.h 0 : Int)) := HR22r.out.cell 0
                  have r1 : wr.cell? ⟨b22, 1, none⟩ = some (.int .u64 (u.h 1 : Int)) := HR22r.out.cell 1
                  have r2 : wr.cell? ⟨b22, 2, none⟩ = some (.int .u64 (u.h 2 : Int)) := HR22r.out.cell 2
                  have r3 : wr.cell? ⟨b22, 3, none⟩ = some (.int .u64 (u.h 3 : Int)) := HR22r.out.cell 3
                  have r4 : wr.cell? ⟨b22, 4, none⟩ = some (.int .u8 (tr : Int)) := HR22r.out.cell 4
                  have r5 : wr.cell? ⟨b22, 5, none⟩ = some (.int .u8 (u.ld : Int)) := HR22r.out.cell 5
                  have r6 : wr.cell? ⟨b22, 6, none⟩ = some (.slice x2 k y2) := HR22r.out.cell 6
                  clear hbt how hv2o hsm hk hkn
                  go_wp2_with fail
                  refine HSM.out.mono ?_
                  rintro e wz ⟨rfl, hbz⟩
                  have HBZ := Lib.hid hbz
                  clear hbz
                  go_wp2_with fail
                  go_ret
                  refine ⟨rfl, ?_⟩
                  have h1 := HBq.out.trans (HBt.out.mono HBq.out.size)
                  have h2 : Below w.heap.size w wr := by
                    rcases HGB.out with hg | hg
                    · exact But.below h1 HBT'.out h1.size (by have h7 := HB7.out.size; have h2 := HBq.out.size; omega)
                    · exact But.below h1 HBT'.out h1.size (Nat.le_trans h1.size hg)
                  exact h2.trans (HBZ.out.mono h2.size)
end Go.Proofs.YtpobcaopfeddgaaDoor
