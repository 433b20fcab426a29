/- revoke.Right over this seat's program. -/
import Derived.Test.YtdlnilebnobllaaRvRan
namespace Go.Proofs.Ytdlnilebnobllaa
open Go.RowKit Go.Shelf Go.Sort
attribute [local go_sem] Oper.semAt_some

theorem rev_right_no (r : Rc) (a : Option Addr) (len cap : Nat) (w : World) (hok : r.ok len cap) (hd : r.dealt = false) :
    Calls Try.prog 23 #[r.v a len cap] w fun e w' => e = .returned (.tuple #[.int .i64 (-1), .int .i64 130]) ∧ Below w.heap.size w w' := by
  have HDL := fun o => rev_dealt r a len cap (w.alloc o) hok.h
  rw [hd] at HDL
  have HD := Lib.hid HDL
  clear HDL hd
  go_enter Try.func23, Try.ntmps23
  go_wp2_with fail
  refine (HD.out _).mono ?_
  rintro e w1 ⟨rfl, hb1⟩
  have hbb := ((Below.refl w.heap.size w).alloc (Nat.le_refl _) (.cells (r.cells a len cap) 27)).trans (hb1.mono (by simp))
  have HBB := Lib.hid hbb
  clear hbb hb1
  go_wp2
  go_ret2
  exact ⟨rfl, HBB.out⟩

theorem rev_right_ok (r : Rc) (a : Option Addr) (len cap : Nat) (w : World) (hok : r.ok len cap) (hz : Byt w a len r.zs) (hab : ∀ ad, a = some ad → ad.block < w.heap.size) (hd : r.dealt = true) :
    Calls Try.prog 23 #[r.v a len cap] w fun e w' => e = .returned (.tuple #[.int .i64 r.rightV.1, .int .i64 r.rightV.2]) ∧ Below w.heap.size w w' := by
  refine (callsIn_wide (n := 9)).1 (callsIn_of_wp_marks Try.func23 rfl trivial ?_)
  simp only [Try.ntmps23, List.size_toArray, List.length_cons, List.length_nil, Nat.reduceAdd, Nat.reduceSub, Array.replicate_succ, Array.replicate_zero, List.push_toArray, List.append_toArray, List.nil_append, List.cons_append]
  have HRV := Lib.hid (show r.rightV = if sumTo r.rnds < r.zs.length then ((sumTo r.rnds : Int), 131) else (-1, 0) by unfold Rc.rightV; rw [if_pos hd])
  have HDL := fun o => rev_dealt r a len cap (w.alloc o) hok.h
  rw [hd] at HDL
  have HD := Lib.hid HDL
  clear HDL hd
  gi_wp2_with fail
  refine (callsIn_wide.2 (HD.out _)).mono ?_
  rintro e w1 ⟨rfl, hb1⟩
  have hsz1 := hb1.size
  simp only [World.size_alloc] at hsz1
  have hszl : w.heap.size < w1.heap.size := by omega
  have hBw := ((Below.refl w.heap.size w).alloc (Nat.le_refl _) (.cells (r.cells a len cap) 27)).trans (hb1.mono (by simp))
  have hRec := (Row.new w 27 (r.cells a len cap)).below (by simp) hb1
  have HREC := Lib.hid hRec
  have HBW := Lib.hid hBw
  clear hBw hb1
  have k0 := hRec.cell 0
  have k1 := hRec.cell 1
  have k2 := hRec.cell 2
  have k3 := hRec.cell 3
  have k4 := hRec.cell 4
  have k5 := hRec.cell 5
  have k6 := hRec.cell 6
  clear hRec
  simp at k0 k1 k2 k3 k4 k5 k6
  gi_wp2_with fail
  refine (callsIn_wide.2 (rev_rounds r a len cap _)).mono ?_
  rintro e w2 ⟨rfl, rfl⟩
  gi_wp2_with fail
  have hBn := (HBW.out.alloc (by omega) (.cells #[.int .i64 0] 3)).alloc (by simp; omega) (.cells (r.cells a len cap) 27)
  refine range_rounds (w1.heap.size + 1) r a len cap (by decide) rfl (by simp) (by simp) (by decide)
    (by have := Row.new (w1.alloc (.cells #[.int .i64 0] 3)) 27 (r.cells a len cap); simpa using this) (hz.below (Nat.le_refl _) hBn) hok
    (fun b => b = w1.heap.size + 1 ∨ ∃ ad, a = some ad ∧ b = ad.block) (.inl rfl) (fun ad h => .inr ⟨ad, h, rfl⟩)
    (by rintro b (rfl | ⟨ad, h, rfl⟩); · simp
        · have := hab ad h; simp; omega)
    (fun _ pre W => Row W w1.heap.size 3 #[.int .i64 (sumTo pre : Int)] ∧ Row W w.heap.size 27 (r.cells a len cap) ∧ Below w.heap.size w W)
    (stable_and (stable_row (c := fun pre => #[.int .i64 (sumTo pre : Int)]) (by simp; omega)) (stable_and (stable_row (c := fun _ => r.cells a len cap) (by simp; omega)) (stable_below (by simp; omega) (Nat.le_refl _))))
    ⟨(Row.new _ _ _).alloc _, (HREC.out.alloc _).alloc _, hBn⟩ ?body ?done
  case body =>
    rintro l G pre x T W ⟨hn, hr, hB⟩ hT hTw hG hsz hpre
    simp only [inFr, List.setIfInBounds_toArray, List.set]
    obtain ⟨ad, c, hcv⟩ := rnd_cards (cap := cap) hz hpre
    have hle := sumTo_le hpre
    have hsm := hz.small
    have hlen := hz.length
    have hsn := sumTo_snoc pre x
    rw [hsn] at hle
    have HSN := Lib.hid hsn
    clear hsn
    have c0 := hn.cell 0
    have cf := hn.frozen 0
    have t6 := hT.cell 6
    simp [rndC, hcv] at c0 t6
    have HCV := Lib.hid hcv
    clear hcv
    simp only [World.size_alloc] at hsz hTw hG
    rw [hlen] at hle
    clear hlen
    gi_wp2
    refine ⟨keeps_set _ _ (by simp; omega), fun b hb => Below.heap_setCell _ _ _ _ (fun e => by have := (hG b hb).2; subst e; simp at this; omega), (Kept.refl _ _).setCell ?_ _, ?_, hr.other (by omega), hB.setCell (by simp; omega) _⟩
    · rintro (h | ⟨ad', h, h'⟩)
      · simp at h
      · have := hab ad' h; simp at h'; omega
    · have h := hn.set 0 (.int .i64 ((sumTo pre : Int) + (x.cards.length : Int)))
      rw [HSN.out]
      simpa using h
  case done =>
    rintro D G W hD ⟨hn, hr, hB⟩ hK
    have c0 := hn.cell 0
    have r6 := hr.cell 6
    simp at c0 r6
    have hle := sumTo_le (List.prefix_refl r.rnds)
    have hlen := Lib.hid hz.length
    have hsm := hz.small
    by_cases hlt : sumTo r.rnds < r.zs.length
    · have hlt' : sumTo r.rnds < len := by rw [hlen.out] at hlt; exact hlt
      have HR := Lib.hid (show r.rightV = ((sumTo r.rnds : Int), 131) by rw [HRV.out, if_pos hlt])
      clear hlt
      gi_wp2
      refine ⟨by simp, .inl ⟨_, _, rfl, run_takeDeferred hK, ?_⟩⟩
      exact ⟨_, results_tmp2 rfl _ _ _, by rw [HR.out]; rfl, hB.trans (belowK_b (w := w) (Nat.le_refl _) W D _ _ (by simp at hD; omega) hK rfl rfl)⟩
    · have hlt' : ¬ sumTo r.rnds < len := by rw [hlen.out] at hlt; exact hlt
      have HR := Lib.hid (show r.rightV = (-1, 0) by rw [HRV.out, if_neg hlt])
      clear hlt
      gi_wp2
      refine ⟨by simp, .inl ⟨_, _, rfl, run_takeDeferred hK, ?_⟩⟩
      exact ⟨_, results_tmp2 rfl _ _ _, by rw [HR.out]; rfl, hB.trans (belowK_b (w := w) (Nat.le_refl _) W D _ _ (by simp at hD; omega) hK rfl rfl)⟩
end Go.Proofs.Ytdlnilebnobllaa
