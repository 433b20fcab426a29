/- ClQ, OwA in one text. -/
import Derived.Test.YtnbillhodbcfbaaDoorMClo
import Derived.Test.YtnbillhodbcfbaaDoorDmPl
import Derived.Test.YtnbillhodbcfbaaDoorMDpg
import Derived.Test.YtnbillhodbcfbaaDoorDmPj
import Derived.Deep.LoopGhost

/- (claim.table).worst over this seat's program. -/
namespace Go.Proofs.YtnbillhodbcfbaaDoor
open Go.RowKit Go.Sort Go.Shelf Go.Maps Go.WideMaps

/-- the first card of least worth -/
def wsF (g : Nat → Nat) (l : List Nat) : Nat × Nat := l.foldl (fun a c => if g c < a.2 then (c, g c) else a) (0, 7)
theorem wsF_snoc (g : Nat → Nat) (l : List Nat) (c : Nat) : wsF g (l ++ [c]) = if g c < (wsF g l).2 then (c, g c) else wsF g l := by unfold wsF; rw [List.foldl_append]; rfl
theorem wsF_le (g : Nat → Nat) (l : List Nat) : (wsF g l).2 ≤ 7 := by
  refine snoc_ind (P := fun l => (wsF g l).2 ≤ 7) (Nat.le_refl _) (fun l x ih => ?_) l
  rw [wsF_snoc]
  split
  · rename_i h; exact Nat.le_trans (Nat.le_of_lt h) ih
  · exact ih
theorem wsF_ok (g : Nat → Nat) (l : List Nat) : (wsF g l).1 < 52 ∨ (wsF g l).1 ∈ l := by
  refine snoc_ind (P := fun l => (wsF g l).1 < 52 ∨ (wsF g l).1 ∈ l) (.inl (show (0 : Nat) < 52 by decide)) (fun l x ih => ?_) l
  rw [wsF_snoc]
  split
  · exact .inr (List.mem_append_right _ (List.mem_singleton.2 rfl))
  · rcases ih with h | h
    · exact .inl h
    · exact .inr (List.mem_append_left _ h)
set_option maxHeartbeats 4000000 in
set_option maxRecDepth 10000 in
theorem cl_worst {P : Prm} {x m : Nat} (hP : P.ok x) (n : Nat) (t : Tb) (q : Nat) (W : World) (hg : TbG q t) (hm : m + 1 + t.cs.length = 4 * q) (hq : q ≤ 4) (hE : Env P x n W) (hn : n + 5 ^ (m + 1) < maxLen) :
    Calls Tryd.prog 51 #[.agg (tbA t), .int .u8 (P.tr : Int), .int .u8 (P.sd : Int), folV x] W fun e w' => e = .returned (.int .u8 ((wsF (P.wo m t) t.cards).1 : Int)) ∧ Env P x (n + 4 * 5 ^ m) w' ∧ But W.heap.size (x + 4) W w' := by
  have HP := Lib.hid hP
  have HI := Lib.hid (cl_follow hP m)
  have HG := Lib.hid hg
  have HM1 := Lib.hid hm
  have HQ := Lib.hid hq
  have HN := Lib.hid hn
  have HCA := Lib.hid (fun W' => cl_can t hg.ok W')
  have hz0 := canM_w64 hg.ok
  have hLe : ((bitsList (canM t)).map Fin.val).length ≤ q := by rw [List.length_map]; exact can_len hg.ok hg.ev
  have hLl : ∀ c ∈ (bitsList (canM t)).map Fin.val, t.legal c = true := fun c hc => by rw [canM_list hg.ok] at hc; exact (mem_cards.1 hc).2
  rw [← canM_list hg.ok]
  obtain ⟨z0, hz0e⟩ : ∃ z, canM t = z := ⟨_, rfl⟩
  rw [hz0e] at HCA hz0 hLe hLl ⊢
  obtain ⟨Lm, hLmm⟩ : ∃ l, (bitsList z0).map Fin.val = l := ⟨_, rfl⟩
  have HZL : Hid (Lm = [] ++ (bitsList z0).map Fin.val) := Lib.hid (by rw [hLmm]; rfl)
  rw [hLmm] at hLe hLl ⊢
  have HLG := Lib.hid hLl
  have HLE := Lib.hid hLe
  obtain ⟨g, hgg⟩ : ∃ g, P.wo m t = g := ⟨_, rfl⟩
  have HGC : Hid (∀ c, g c = wonS P.sd P.tr t c + P.mn m (t.put P.tr c).1) := Lib.hid (fun c => by rw [← hgg]; rfl)
  rw [hgg]
  obtain ⟨TU, hTA⟩ : ∃ A, tbA t = A := ⟨_, rfl⟩
  have HTU := Lib.hid hTA
  have HUZ : Hid ((Tryd.prog.info? 87).map (·.size) = some TU.size) := Lib.hid (by rw [← hTA]; exact size_ct)
  rw [hTA] at HCA ⊢
  unfold folV
  have hY0 := Row.new W 87 TU
  have hB0 := (Below.refl W.heap.size W).alloc (Nat.le_refl _) (.cells TU 87)
  have hE0 := hE.later hP hB0
  have hyx : x + 6 < W.heap.size := hE.mlt
  clear hP hg hm hq hn hz0e hLmm hLe hLl hgg hTA hE
  go_enter Tryd.func51, Tryd.ntmps51
  go_upto_region 1 with fail
  generalize W.alloc (.cells TU 87) = w1 at *
  obtain ⟨y, hy⟩ : ∃ b, W.heap.size = b := ⟨_, rfl⟩
  have HYW := Lib.hid hy
  rw [hy] at hY0 hB0 hyx ⊢
  clear hy
  go_upto_region 2 with fail
  go_wp2_with (refine wpList_load_row rfl 87 (.tmp 4) rfl y rfl 87 TU (0, 0) _ hY0 Tryd.underlying87 rfl HUZ.out ?_)
  refine (HCA.out w1).mono ?_
  rintro e w2 ⟨rfl, hb2⟩
  have HE := Lib.hid (hE0.later HP.out hb2)
  have HY := Lib.hid (hY0.later hb2)
  have HBt : Hid (But y (x + 4) W w2) := Lib.hid (But.of_below (hB0.trans (hb2.mono (Nat.le_of_lt hY0.lt))))
  have HYX : Hid (y ≠ x + 4) := Lib.hid (by omega)
  clear hb2 hY0 hB0 hE0 hyx
  go_wp2_with fail
  go_loopw [9, 10, 11] (fun kk ff cc wr => ∃ (pre : List Nat) (z : Nat), W64 z ∧ Lm = pre ++ (bitsList z).map Fin.val ∧ cc = .int .u64 (z : Int) ∧ kk = .int .u8 ((wsF g pre).1 : Int) ∧ ff = .int .i64 ((wsF g pre).2 : Int) ∧ Env P x (n + pre.length * 5 ^ m) wr ∧ Row wr y 87 TU ∧ But y (x + 4) W wr) (fun _ _ cc _ => (intOf cc).toNat)
  case atStart => exact ⟨[], z0, hz0, HZL.out, rfl, rfl, rfl, HE.out.mono (by omega), HY.out, HBt.out⟩
  case round =>
    clear HE HY HBt
    obtain ⟨pre, z, hzw, hll, rfl, rfl, rfl, hE, hY, hBt⟩ := hrel
    have HLL := Lib.hid hll
    have HE := Lib.hid hE
    have HY := Lib.hid hY
    have HBt := Lib.hid hBt
    have HYS : Hid (y ≤ wr.heap.size) := Lib.hid (Nat.le_of_lt hY.lt)
    have HPL : Hid (pre.length ≤ 4) := Lib.hid (by
      have h1 := HLE.out
      have h2 := HQ.out
      rw [hll, List.length_append] at h1
      omega)
    clear hll hE hY hBt
    by_cases hz : z = 0
    · subst hz
      have hpl : pre = Lm := by rw [HLL.out, bitsList_zero]; simp
      subst hpl
      clear hz0 hzw
      go_wp2_with fail
      go_ret
      refine ⟨rfl, HE.out.mono ?_, by rw [HYW.out]; exact HBt.out⟩
      have h3 : pre.length * 5 ^ m ≤ 4 * 5 ^ m := Nat.mul_le_mul_right _ HPL.out
      omega
    · have hz1 : ((z : Int) != 0) = true := by rw [bne_iff_ne]; omega
      obtain ⟨hk, hcons⟩ := bitsList_cons z hz hzw
      have hcl := HLG.out (Lib.ctz 64 z) (by rw [HLL.out, hcons]; simp)
      have HXX : Hid (Lm = (pre ++ [Lib.ctz 64 z]) ++ (bitsList (drop1 z)).map Fin.val) := Lib.hid (by rw [HLL.out, hcons]; simp)
      have HFI := Lib.hid (fun (W' : World) (hT : Tab W') => cl_first z hzw hz W' hT)
      have hdr := drop_run z hzw hz
      have HDW := Lib.hid (drop1_w64 hzw hz)
      have HDL := Lib.hid (drop1_lt z hz)
      have HPR : Hid (pre.length + 1 ≤ 4) := Lib.hid (by
        have h1 := HLE.out
        have h2 := HQ.out
        rw [HXX.out, List.length_append, List.length_append] at h1
        simp at h1
        omega)
      clear hcons hk
      obtain ⟨c, hc⟩ : ∃ c, Lib.ctz 64 z = c := ⟨_, rfl⟩
      rw [hc] at hcl HXX HFI
      clear hc
      obtain ⟨z', hz'⟩ : ∃ q, drop1 z = q := ⟨_, rfl⟩
      rw [hz'] at hdr HDW HDL HXX
      clear hz'
      obtain ⟨hc52, hcb⟩ := legal_bit (cards_pk HG.out.ok.pk hcl)
      obtain ⟨q', hg', hq', hm'⟩ := HG.out.put P.tr hcl HM1.out
      have HG2 := Lib.hid hg'
      have HM2 := Lib.hid hm'
      have HQ2 : Hid (q' ≤ 4) := Lib.hid (by have := HQ.out; omega)
      have HFW := Lib.hid (wsF_snoc g pre c)
      have hfl := wsF_le g pre
      have HPU := Lib.hid (fun W' => cl_put t HG.out.ok P.tr P.sd c hc52 HP.out.tr W')
      rw [HTU.out] at HPU
      obtain ⟨un, hun⟩ : ∃ un, (t.put P.tr c).1 = un := ⟨_, rfl⟩
      obtain ⟨wn, hwn⟩ : ∃ wn, wonS P.sd P.tr t c = wn := ⟨_, rfl⟩
      have hgc := HGC.out c
      rw [hun, hwn] at hgc
      rw [hun, hwn] at HPU
      rw [hun] at HG2 HM2
      have hw1 : wn ≤ 1 := by rw [← hwn]; exact (wonS_le P.sd P.tr t c).1
      have hr7 := Prm.mn_le (P := P) (m := m) HG2.out HM2.out
      obtain ⟨TN, hTN⟩ : ∃ A, tbA un = A := ⟨_, rfl⟩
      have HNZ : Hid ((Tryd.prog.info? 87).map (·.size) = some TN.size ∧ TN.size = 10 ∧ TN.all (·.oneCell') = true) := Lib.hid (by rw [← hTN]; exact ⟨size_ct, rfl, tbA_one _⟩)
      have HIH := Lib.hid (fun n' W' hE' hn' => HI.out n' un q' W' HG2.out HM2.out HQ2.out hE' hn')
      rw [hTN] at HPU HIH
      obtain ⟨r, hr⟩ : ∃ r, P.mn m un = r := ⟨_, rfl⟩
      rw [hr] at hgc HIH hr7
      have hq2 := HQ2.out
      have HNN : Hid (n + pre.length * 5 ^ m + 5 ^ m < maxLen) := Lib.hid (by
        have h1 := HN.out
        have h3 : (pre.length + 1) * 5 ^ m ≤ 4 * 5 ^ m := Nat.mul_le_mul_right _ HPR.out
        have h4 : 5 ^ (m + 1) = 5 * 5 ^ m := by rw [Nat.pow_succ, Nat.mul_comm]
        rw [Nat.succ_mul] at h3
        omega)
      clear hcl hcb hg' hq' hm' hun hwn hTN hr hz
      have hy1 := HY.out
      go_upto_region 5 with fail
      go_wp2_with fail
      refine (HFI.out wr HE.out.tab).mono ?_
      rintro e w5 ⟨rfl, rfl⟩
      go_upto_region 6 with fail
      go_wp2_with (refine wpList_load_row rfl 87 (.tmp 4) rfl y rfl 87 TU (0, 0) _ hy1 Tryd.underlying87 rfl HUZ.out ?_)
      refine (HPU.out wr).mono ?_
      rintro e w6 ⟨rfl, hb6⟩
      have HN0 := Lib.hid (Row.new w6 87 zeroT)
      have ha := below_setRow ((Below.refl w6.heap.size w6).alloc (Nat.le_refl _) (.cells zeroT 87)) (Nat.le_refl _) TN
      have hrn : Row ((w6.alloc (.cells zeroT 87)).setRow w6.heap.size TN) w6.heap.size 87 TN := setRow_heap _ _ _ _ _ _ HN0.out
      have hbb := hb6.trans (ha.mono hb6.size)
      have HE6 := Lib.hid (HE.out.later HP.out hbb)
      have HY6 := Lib.hid (HY.out.later hbb)
      have HB6 : Hid (But y (x + 4) W ((w6.alloc (.cells zeroT 87)).setRow w6.heap.size TN)) := Lib.hid (HBt.out.trans (But.of_below (hbb.mono HYS.out)))
      clear hb6 ha hbb hy1
      go_upto_region 7 with (refine wpList_store_row rfl 87 (.tmp 13) (.tmp 32) rfl w6.heap.size TN rfl rfl 87 _ HN0.out HNZ.out.1 (by rw [HNZ.out.2.1]; rfl) HNZ.out.2.2 ?_)
      generalize (w6.alloc (.cells zeroT 87)).setRow w6.heap.size TN = w7 at *
      obtain ⟨g0, hg0⟩ : ∃ b, w6.heap.size = b := ⟨_, rfl⟩
      rw [hg0] at hrn ⊢
      clear hg0 HN0
      go_wp2_with (refine wpList_load_row rfl 87 (.tmp 13) rfl g0 rfl 87 TN (0, 0) _ hrn Tryd.underlying87 rfl HNZ.out.1 ?_)
      refine (HIH.out _ w7 HE6.out HNN.out).mono ?_
      rintro e w8 ⟨rfl, hE7, hB7⟩
      have HE7 := Lib.hid hE7
      have HY7 := Lib.hid (hB7.row HY6.out HY6.out.lt HYX.out)
      have HB7 : Hid (But y (x + 4) W w8) := Lib.hid (HB6.out.trans (hB7.mono (Nat.le_of_lt HY6.out.lt)))
      clear hE7 hB7 hrn
      have hwr : IntKind.i64.wrap ((wn : Int) + (r : Int)) = (wn : Int) + (r : Int) := IntWalk.i64_in _ (by omega)
      obtain ⟨ww, hww⟩ : ∃ p, wsF g pre = p := ⟨_, rfl⟩
      have HWW := Lib.hid hww
      rw [hww] at HFW ⊢
      by_cases hlt : g c < ww.2
      · have hlI : decide ((wn : Int) + (r : Int) < (ww.2 : Int)) = true := by rw [decide_eq_true_iff]; omega
        have HF2 : Hid (wsF g (pre ++ [c]) = (c, g c)) := Lib.hid (by rw [HFW.out, if_pos hlt])
        have HGE : Hid (((g c : Nat) : Int) = (wn : Int) + (r : Int)) := Lib.hid (by omega)
        clear hlt hfl hgc hww
        go_wp2_with fail
        go_roundw
        case rel => exact ⟨pre ++ [c], z', HDW.out, HXX.out, by go_num, by rw [HF2.out], by rw [HF2.out]; show Value.int IntKind.i64 _ = .int .i64 ((g c : Nat) : Int); rw [HGE.out], by rw [List.length_append, List.length_singleton, Nat.succ_mul, ← Nat.add_assoc]; exact HE7.out, HY7.out, HB7.out⟩
        case measure => have := HDL.out; simp [intOf]; omega
      · have hlI : decide ((wn : Int) + (r : Int) < (ww.2 : Int)) = false := by rw [decide_eq_false_iff_not]; omega
        have HF2 : Hid (wsF g (pre ++ [c]) = ww) := Lib.hid (by rw [HFW.out, if_neg hlt])
        clear hlt hfl hgc hww
        go_wp2_with fail
        go_roundw
        case rel => exact ⟨pre ++ [c], z', HDW.out, HXX.out, by go_num, by rw [HF2.out], by rw [HF2.out], by rw [List.length_append, List.length_singleton, Nat.succ_mul, ← Nat.add_assoc]; exact HE7.out, HY7.out, HB7.out⟩
        case measure => have := HDL.out; simp [intOf]; omega
end Go.Proofs.YtnbillhodbcfbaaDoor

/- Own lists lie apart from other blocks (lines of DmPn that name no function). -/
namespace Go.Proofs.YtnbillhodbcfbaaDoor
open Go.RowKit Go.Sort Go.Shelf Go.Maps Go.WideMaps

theorem own_apart {α : Type} {enc : α → List Value} {m : Nat} {T T' : TypeId} {w : World} {base b : Nat} {v : Value} {l : List α} {cs : Array Value} (h : Owns enc m T w base v l) (hr : Row w b T' cs) (hne : T' ≠ T) : some b ≠ v.ownBlock := by
  intro e
  rcases h.2.2 with ⟨h1, -⟩ | ⟨g, cap, cur, h1, h2, h3, h4⟩
  · rw [h1] at e; cases e
  · rw [h1] at e
    obtain rfl : b = g := by simpa [Value.ownBlock] using e
    have hr : w.heap[b]? = _ := hr
    rw [hr] at h3
    simp only [Option.some.injEq, Obj.cells.injEq] at h3
    exact hne h3.2.1
theorem own_not {α : Type} {enc : α → List Value} {m : Nat} {T : TypeId} {w : World} {base b : Nat} {v : Value} {l : List α} (h : Owns enc m T w base v l) (hr : ∀ cur, w.heap[b]? ≠ some (.cells cur T (0, 0))) : some b ≠ v.ownBlock := by
  intro e
  rcases h.2.2 with ⟨h1, -⟩ | ⟨g, cap, cur, h1, h2, h3, h4⟩
  · rw [h1] at e; cases e
  · rw [h1] at e
    obtain rfl : b = g := by simpa [Value.ownBlock] using e
    exact hr _ h3
theorem But.grown {B bm : Nat} {W W' : World} (h : But B bm W W') (hB : W.heap.size ≤ B) : W.grownBy W' (some bm) := ⟨h.os, h.tape, h.output, h.size, fun k hk hne => h.same k (Nat.lt_of_lt_of_le hk hB) fun e => hne (by rw [e])⟩
theorem can_zero {t : Tb} (h : TbOk t) (he : Evn 0 t) : canM t = 0 := by
  have h1 := can_len h he
  apply Nat.eq_of_testBit_eq
  intro c
  rw [Nat.zero_testBit]
  cases hb : (canM t).testBit c
  · rfl
  · have h2 := (mem_bits (canM_w64 h) (c := c)).2 hb
    rw [List.length_eq_zero_iff.1 (by omega : (bitsList (canM t)).length = 0)] at h2
    cases h2
end Go.Proofs.YtnbillhodbcfbaaDoor
