/- finesselaw16.theirs and few. -/
import Derived.Test.YtnbillhodbcfbaaDoorCrH
import Derived.Test.YtnbillhodbcfbaaDoorDmWp
namespace Go.Proofs.YtnbillhodbcfbaaDoor
open Go.RowKit Go.Shelf Go.Sort Go.Maps Go.WideMaps

set_option maxHeartbeats 2000000 in
set_option maxRecDepth 10000 in
theorem law16_theirs (h : Nat → Nat) (tr ld : Nat) (ps : List Nat) (a : Option Addr) (n cap : Nat) (w : World) (hz : Byt w a n ps) :
    Calls Tryd.prog 27 #[.agg (posA h tr ld (.slice a n cap))] w fun e w' => ∃ v, e = .returned (.agg (posA h tr ld v)) ∧ OwnU w' w.heap.size v ps ∧ Below w.heap.size w w' := by
  have HZ := Lib.hid hz
  have HB := Lib.hid (((Below.refl w.heap.size w).alloc (Nat.le_refl _) (.cells (posA h tr ld (.slice a n cap)) 27)).alloc (by rw [World.size_alloc]; omega) (.cells zeroP 62))
  have HR1 := Lib.hid ((Row.new w 27 (posA h tr ld (.slice a n cap))).alloc (.cells zeroP 62))
  have HR2 := Lib.hid (Row.new1 w (.cells (posA h tr ld (.slice a n cap)) 27) 62 zeroP)
  clear hz
  go_enter Tryd.func27, Tryd.ntmps27
  go_upto_region 1 with fail
  generalize (w.alloc (.cells (posA h tr ld (.slice a n cap)) 27)).alloc (.cells zeroP 62) = w1 at *
  obtain ⟨b1, hb1⟩ : ∃ b, w.heap.size = b := ⟨_, rfl⟩
  rw [hb1] at HR1 HR2 ⊢
  obtain ⟨b2, hb2⟩ : ∃ b, b1 + 1 = b := ⟨_, rfl⟩
  rw [hb2] at HR2 ⊢
  have HBB := Lib.hid (And.intro hb1 hb2)
  clear hb1 hb2
  refine wp_region_reliesS (ChF [.pointer (some ⟨b1, 0, none⟩), .agg #[.int .u64 (h 0 : Int), .int .u64 (h 1 : Int), .int .u64 (h 2 : Int), .int .u64 (h 3 : Int)], .pointer (some ⟨b1, 4, none⟩), .int .u8 (tr : Int), .pointer (some ⟨b1, 5, none⟩), .int .u8 (ld : Int), undef, .pointer (some ⟨b1, 6, none⟩), .slice a n cap, undef, undef, undef] [6, 9, 10, 11] []
    (fun vs _ W => (Below w.heap.size w W ∧ Row W b1 27 (posA h tr ld (.slice a n cap))) ∧ match vs with
      | [] => Row W b2 62 zeroP
      | [x] => Row W b2 62 zeroP ∧ OwnU W w.heap.size x []
      | [_, y] => Row W b2 62 zeroP ∧ OwnU W w.heap.size y ps
      | [_, y, z] => Row W b2 62 zeroP ∧ OwnU W w.heap.size y ps ∧ z = .agg (posA h tr ld y)
      | [_, y, _, _] => Row W b2 62 (posA h tr ld y) ∧ OwnU W w.heap.size y ps
      | _ => False)) (by kernel_rfl) (by kernel_rfl) (by kernel_rfl) (by kernel_rfl) (ChF.start ⟨⟨HB.out.drew, HR1.out.later (Below.refl _ _).drew⟩, HR2.out.later (Below.refl _ _).drew⟩) ?obls ?fini
  case obls =>
    refine ⟨?_, ?_, ?_, ?_, ?_, ?_, ?_, ?_, ?_, ?_, ?_, ?_, trivial⟩
    · rintro ρ f W ⟨vs, us, hX⟩ hfi hw hcl hf
      have f1 : ρ (.tmp 1) = .pointer (some ⟨b1, 0, none⟩) := hf.1 1 (by simp [Op.operands])
      exact ok_value (v := .pointer (some ⟨b1, 0, none⟩)) (w' := W) (by simp [execOp, f1, go_sem]) (hX.pure 0 _ (by decide) (by decide) rfl hX.st)
    · rintro ρ f W ⟨vs, us, hX⟩ hfi hw hcl hf
      have f3 : ρ (.tmp 3) = .pointer (some ⟨b1, 0, none⟩) := hX.val 0 _ _ (by decide) (by decide) (hf.1 3 (by simp [Op.operands])) rfl
      have c0 := hX.st.1.2.cell 0
      have c1 := hX.st.1.2.cell 1
      have c2 := hX.st.1.2.cell 2
      have c3 := hX.st.1.2.cell 3
      simp only [posA, List.getElem?_toArray, List.getElem?_cons_zero, List.getElem?_cons_succ] at c0 c1 c2 c3
      exact ok_value (v := .agg #[.int .u64 (h 0 : Int), .int .u64 (h 1 : Int), .int .u64 (h 2 : Int), .int .u64 (h 3 : Int)]) (w' := W) (by simp [execOp, f3, go_sem, c0, c1, c2, c3]) (hX.pure 1 _ (by decide) (by decide) rfl hX.st)
    · rintro ρ f W ⟨vs, us, hX⟩ hfi hw hcl hf
      have f1 : ρ (.tmp 1) = .pointer (some ⟨b1, 0, none⟩) := hf.1 1 (by simp [Op.operands])
      exact ok_value (v := .pointer (some ⟨b1, 4, none⟩)) (w' := W) (by simp [execOp, f1, go_sem]) (hX.pure 2 _ (by decide) (by decide) rfl hX.st)
    · rintro ρ f W ⟨vs, us, hX⟩ hfi hw hcl hf
      have f5 : ρ (.tmp 5) = .pointer (some ⟨b1, 4, none⟩) := hX.val 2 _ _ (by decide) (by decide) (hf.1 5 (by simp [Op.operands])) rfl
      have c4 : W.cell? ⟨b1, 4, none⟩ = some (.int .u8 (tr : Int)) := hX.st.1.2.cell 4
      exact ok_value (v := .int .u8 (tr : Int)) (w' := W) (by simp [execOp, f5, go_sem, c4]) (hX.pure 3 _ (by decide) (by decide) rfl hX.st)
    · rintro ρ f W ⟨vs, us, hX⟩ hfi hw hcl hf
      have f1 : ρ (.tmp 1) = .pointer (some ⟨b1, 0, none⟩) := hf.1 1 (by simp [Op.operands])
      exact ok_value (v := .pointer (some ⟨b1, 5, none⟩)) (w' := W) (by simp [execOp, f1, go_sem]) (hX.pure 4 _ (by decide) (by decide) rfl hX.st)
    · rintro ρ f W ⟨vs, us, hX⟩ hfi hw hcl hf
      have f7 : ρ (.tmp 7) = .pointer (some ⟨b1, 5, none⟩) := hX.val 4 _ _ (by decide) (by decide) (hf.1 7 (by simp [Op.operands])) rfl
      have c5 : W.cell? ⟨b1, 5, none⟩ = some (.int .u8 (ld : Int)) := hX.st.1.2.cell 5
      exact ok_value (v := .int .u8 (ld : Int)) (w' := W) (by simp [execOp, f7, go_sem, c5]) (hX.pure 5 _ (by decide) (by decide) rfl hX.st)
    · rintro ρ f W ⟨vs, us, hX⟩ hfi hw hcl hf
      have hl := hX.le1 0 6 rfl hfi
      obtain rfl := list0 hl
      obtain ⟨⟨hB, hR1⟩, hR2⟩ := hX.st
      have hsz := hB.size
      refine ok_value (v := .slice (some ⟨W.heap.size, 0, none⟩) 0 0) (w' := W.alloc (.cells #[] 5)) (by simp [execOp, go_sem]) (hX.step1 6 _ rfl (by decide) (by decide) ⟨⟨hB.alloc hsz _, hR1.alloc _⟩, hR2.alloc _, ownU_made0 W _ hsz⟩)
    · rintro ρ f W ⟨vs, us, hX⟩ hfi hw hcl hf
      have f1 : ρ (.tmp 1) = .pointer (some ⟨b1, 0, none⟩) := hf.1 1 (by simp [Op.operands])
      exact ok_value (v := .pointer (some ⟨b1, 6, none⟩)) (w' := W) (by simp [execOp, f1, go_sem]) (hX.pure 7 _ (by decide) (by decide) rfl hX.st)
    · rintro ρ f W ⟨vs, us, hX⟩ hfi hw hcl hf
      have f10 : ρ (.tmp 10) = .pointer (some ⟨b1, 6, none⟩) := hX.val 7 _ _ (by decide) (by decide) (hf.1 10 (by simp [Op.operands])) rfl
      have c6 : W.cell? ⟨b1, 6, none⟩ = some (.slice a n cap) := hX.st.1.2.cell 6
      exact ok_value (v := .slice a n cap) (w' := W) (by simp [execOp, f10, go_sem, c6]) (hX.pure 8 _ (by decide) (by decide) rfl hX.st)
    · rintro ρ f W ⟨vs, us, hX⟩ hfi hw hcl hf
      have g9 := hX.get1 0 6 rfl (hf.1 9 (by simp [Op.operands, Call.operands]))
      have f11 : ρ (.tmp 11) = .slice a n cap := hX.val 8 _ _ (by decide) (by decide) (hf.1 11 (by simp [Op.operands, Call.operands])) rfl
      have hl := hX.le1 1 9 rfl hfi
      obtain rfl := list1 hl g9
      obtain ⟨⟨hB, hR1⟩, hR2, hO⟩ := hX.st
      refine ok_appB (.tmp 9) (.tmp 11) rfl w.heap.size _ [] ps rfl hO a n cap f11 (HZ.out.below (Nat.le_refl _) hB) (by have := HZ.out.small; simp; omega) hB.size fun v' w' ho hg hnew => ?_
      have hne : ∀ {b : Nat} {t : TypeId} {cs : Array Value}, Row W b t cs → t ≠ 5 → Row w' b t cs := fun hr ht => hr.grown hg fun e => own_apart hO hr ht e.symm
      exact hX.step1 9 _ rfl (by decide) (by decide) ⟨⟨(hB.grown hg hB.size (fun k hk => (World.ownsRow.lt hO.2 k hk).1)), hne hR1 (by decide)⟩, hne hR2 (by decide), ho⟩
    · rintro ρ f W ⟨vs, us, hX⟩ hfi hw hcl hf
      have f4 : ρ (.tmp 4) = .agg #[.int .u64 (h 0 : Int), .int .u64 (h 1 : Int), .int .u64 (h 2 : Int), .int .u64 (h 3 : Int)] := hX.val 1 _ _ (by decide) (by decide) (hf.1 4 (by simp [Op.operands])) rfl
      have f6 : ρ (.tmp 6) = .int .u8 (tr : Int) := hX.val 3 _ _ (by decide) (by decide) (hf.1 6 (by simp [Op.operands])) rfl
      have f8 : ρ (.tmp 8) = .int .u8 (ld : Int) := hX.val 5 _ _ (by decide) (by decide) (hf.1 8 (by simp [Op.operands])) rfl
      have g12 := hX.get1 1 9 rfl (hf.1 12 (by simp [Op.operands]))
      have hl := hX.le1 2 10 rfl hfi
      obtain ⟨x, rfl⟩ := list2 hl g12
      obtain ⟨hA, hR2, hO⟩ := hX.st
      obtain ⟨y, hy⟩ : ∃ y, ρ (.tmp 12) = y := ⟨_, rfl⟩
      rw [hy] at hO
      obtain ⟨ya, yc, hye, -⟩ := hO.slice
      refine ok_value (v := .agg (posA h tr ld y)) (w' := W) (by rw [hye] at hy ⊢; simp [execOp, f4, f6, f8, hy, go_sem, posA]) (hX.step1 10 _ rfl (by decide) (by decide) (by rw [hy]; exact ⟨hA, hR2, hO, rfl⟩))
    · rintro ρ f W ⟨vs, us, hX⟩ hfi hw hcl hf
      have f2 : ρ (.tmp 2) = .pointer (some ⟨b2, 0, none⟩) := hf.1 2 (by simp [Op.operands])
      have g13 := hX.get1 2 10 rfl (hf.1 13 (by simp [Op.operands]))
      have hl := hX.le1 3 11 rfl hfi
      obtain ⟨x, y, rfl⟩ := list3 hl g13
      obtain ⟨hA, hR2, hO, hz⟩ := hX.st
      obtain ⟨ya, yc, rfl, -⟩ := hO.slice
      refine ok_skip (exec_store_row 62 (.tmp 2) (.tmp 13) rfl b2 (posA h tr ld (.slice ya ps.length yc)) f2 hz hR2 size_rpos rfl (by simp [posA, Value.oneCell'])) (hX.step1 11 _ rfl (by decide) (by decide) ⟨⟨below_setRow hA.1 (by have := HBB.out; omega) _, hA.2.same (setRow_other _ _ _ _ (by have := HBB.out; omega))⟩, setRow_heap _ _ _ _ _ _ hR2, hO.row hR2 (by decide) _⟩)
  case fini =>
    rintro us w2 hlen ⟨vs, us', hX⟩
    have hl0 : us.length = 12 := hlen
    match us, hl0 with
    | [u0, u1, u2, u3, u4, u5, u6, u7, u8, u9, u10, u11], _ =>
      have g11 := hX.get1 3 11 rfl (v := u11) rfl
      have hl1 := hX.l1
      obtain ⟨x, y, z, rfl⟩ := list4 hl1 g11
      obtain ⟨⟨hB, -⟩, hR, hO⟩ := hX.st
      have HB2 := Lib.hid hB
      have HR := Lib.hid hR
      have HO := Lib.hid hO
      obtain ⟨ya, yc, rfl, -⟩ := hO.slice
      clear hB hR hO hX g11 hl1 hlen
      simp only [putAll, List.zip_cons_cons, List.zip_nil_right, List.foldl_cons, List.foldl_nil]
      simp only [Act.put, List.setIfInBounds_toArray, List.set_cons_succ, List.set_cons_zero]
      go_wp2_with fail
      refine bodyPost_ret (v := .agg (posA h tr ld (.slice ya ps.length yc))) (results_cell1 Tryd.results27 _ _ b2 _ _ (0, 0) _ rfl HR.out Tryd.underlying62 rfl size_rpos) rfl ⟨_, rfl, HO.out, HB2.out⟩
/-- what few tells -/
def FewOk16 (h : Nat → Nat) (tr ld : Nat) (ps : List Nat) (nl : Nat) (w : World) (e : Ending) (w' : World) : Prop := ∃ d, e = .returned (.bool d) ∧ (d = true → ps.length ≤ 8 ∧ nl ≤ 60 ∧ (rightB h tr ld ps = true → ∀ s, s < 4 → pop (h s) ≤ 3)) ∧ Below w.heap.size w w'
set_option maxHeartbeats 2000000 in
set_option maxRecDepth 10000 in
theorem law16_few (h : Nat → Nat) (tr ld : Nat) (ps : List Nat) (a : Option Addr) (cap : Nat) (w : World) (hw : ∀ s, W64 (h s)) (htr : tr < 256) (hld : ld < 256) (hz : Byt w a ps.length ps) (la : Option Addr) (nl lcap : Nat) (hnl : nl ≤ 140737488351232) :
    Calls Tryd.prog 23 #[.agg (posA h tr ld (.slice a ps.length cap)), .slice la nl lcap] w (FewOk16 h tr ld ps nl w) := by
  have HW := Lib.hid hw
  have HYZ := Lib.hid hz
  have HTR := Lib.hid (And.intro htr hld)
  have HTH := Lib.hid (fun W hzW => law16_theirs h tr ld ps a ps.length cap W hzW)
  have HPL : Hid (∀ s, pop (h s) ≤ 64) := Lib.hid fun s => cntLe _ _
  have HIX := Lib.hid (fun (j : Nat) (hj : j < 4) => deA_ix h hj)
  have HR0 := Lib.hid (Row.new w 27 (posA h tr ld (.slice a ps.length cap)))
  have HB0 := Lib.hid ((Below.refl w.heap.size w).alloc (Nat.le_refl _) (.cells (posA h tr ld (.slice a ps.length cap)) 27))
  obtain ⟨PA, hPA⟩ : ∃ A, posA h tr ld (.slice a ps.length cap) = A := ⟨_, rfl⟩
  have HPE := Lib.hid hPA
  rw [hPA] at HTH HR0 HB0 ⊢
  have HPZ : Hid (PA.size = 7) := Lib.hid (by rw [← hPA]; rfl)
  have hsm := hz.small
  clear hPA hz hw htr hld
  go_enter Tryd.func23, Tryd.ntmps23
  go_upto_region 1 with fail
  generalize w.alloc (.cells PA 27) = w1 at *
  obtain ⟨b1, hb1⟩ : ∃ b, w.heap.size = b := ⟨_, rfl⟩
  rw [hb1] at HR0 ⊢
  clear hb1
  have c0 : w1.cell? ⟨b1, 0, none⟩ = some (Value.int .u64 (h 0 : Int)) := (HR0.out.cell 0).trans (by rw [← HPE.out]; rfl)
  have c1 : w1.cell? ⟨b1, 1, none⟩ = some (Value.int .u64 (h 1 : Int)) := (HR0.out.cell 1).trans (by rw [← HPE.out]; rfl)
  have c2 : w1.cell? ⟨b1, 2, none⟩ = some (Value.int .u64 (h 2 : Int)) := (HR0.out.cell 2).trans (by rw [← HPE.out]; rfl)
  have c3 : w1.cell? ⟨b1, 3, none⟩ = some (Value.int .u64 (h 3 : Int)) := (HR0.out.cell 3).trans (by rw [← HPE.out]; rfl)
  have c6 : w1.cell? ⟨b1, 6, none⟩ = some (.slice a ps.length cap) := (HR0.out.cell 6).trans (by rw [← HPE.out]; rfl)
  by_cases h8 : 8 < ps.length
  · have h8d : decide ((8 : Int) < (ps.length : Int)) = true := by simp; omega
    clear h8
    go_wp2_with fail
    go_ret
    exact ⟨false, rfl, (fun h => by cases h), HB0.out⟩
  have h8d : decide ((8 : Int) < (ps.length : Int)) = false := by simp; omega
  have H8 : Hid (ps.length ≤ 8) := Lib.hid (by omega)
  clear h8
  by_cases h60 : 60 < nl
  · have h60d : decide ((60 : Int) < (nl : Int)) = true := by simp; omega
    clear h60
    go_wp2_with fail
    go_ret
    exact ⟨false, rfl, (fun h => by cases h), HB0.out⟩
  have h60d : decide ((60 : Int) < (nl : Int)) = false := by simp; omega
  have H60 : Hid (nl ≤ 60) := Lib.hid (by omega)
  clear h60
  go_wp2_with fail
  clear c0 c1 c2 c3 c6 h8d h60d
  go_loopg [4, 19] 4 (fun g _ i wr => ∃ k : Nat, g = 4 - k ∧ k ≤ 4 ∧ i = .int .i64 (k : Int) ∧ (rightB h tr ld ps = true → ∀ s, s < k → pop (h s) ≤ 3) ∧ Row wr b1 27 PA ∧ Below w.heap.size w wr)
  case atStart => exact ⟨0, rfl, by omega, rfl, fun _ s hs => by omega, HR0.out, HB0.out⟩
  case round =>
    obtain ⟨k, rfl, hk, rfl, hpre, hrow, hbl⟩ := hrel
    have HPR := Lib.hid hpre
    have HRW := Lib.hid hrow
    have HBL := Lib.hid hbl
    clear hpre hrow hbl
    by_cases hk4 : k < 4
    · have hki : (k : Int) < 4 := by omega
      have hidx := HIX.out k hk4
      obtain ⟨p, hp⟩ : ∃ p, pop (h k) = p := ⟨_, rfl⟩
      have hp64 : p ≤ 64 := by rw [← hp]; exact HPL.out k
      have HPP := Lib.hid hp
      have HWK := Lib.hid (HW.out k)
      clear hp
      generalize wr = wo at *
      go_upto_region 7 with fail
      clear hidx
      try dsimp only [Act.put]
      go_loopg [6, 7] p (fun g x n wi => ∃ (m k' : Nat), g = p - k' ∧ x = .int .u64 (m : Int) ∧ n = .int .i64 (k' : Int) ∧ W64 m ∧ pop m + k' = p ∧ wi = wo)
      case atStart => exact ⟨h k, 0, rfl, rfl, rfl, HWK.out, HPP.out, rfl⟩
      case round =>
      obtain ⟨m, k', rfl, rfl, rfl, hm, hpk, hwr⟩ := hrel
      subst hwr
      have HM := Lib.hid (And.intro hm hpk)
      by_cases h0 : m = 0
      · obtain rfl : k' = p := by rw [h0] at hpk; have : pop 0 = 0 := by decide
                                  omega
        subst h0
        clear hm hpk HM
        by_cases hp2 : 3 < k'
        · have hp2d : decide ((3 : Int) < (k' : Int)) = true := by simp; omega
          have hc := fun i v (e : PA[i]? = some v) => (HRW.out.cell i).trans e
          have c0 : wr.cell? ⟨b1, 0, none⟩ = some (Value.int .u64 (h 0 : Int)) := hc 0 _ (by rw [← HPE.out]; rfl)
          have c1 : wr.cell? ⟨b1, 1, none⟩ = some (Value.int .u64 (h 1 : Int)) := hc 1 _ (by rw [← HPE.out]; rfl)
          have c2 : wr.cell? ⟨b1, 2, none⟩ = some (Value.int .u64 (h 2 : Int)) := hc 2 _ (by rw [← HPE.out]; rfl)
          have c3 : wr.cell? ⟨b1, 3, none⟩ = some (Value.int .u64 (h 3 : Int)) := hc 3 _ (by rw [← HPE.out]; rfl)
          have c4 : wr.cell? ⟨b1, 4, none⟩ = some (Value.int .u8 (tr : Int)) := hc 4 _ (by rw [← HPE.out]; rfl)
          have c5 : wr.cell? ⟨b1, 5, none⟩ = some (Value.int .u8 (ld : Int)) := hc 5 _ (by rw [← HPE.out]; rfl)
          have c6 : wr.cell? ⟨b1, 6, none⟩ = some (.slice a ps.length cap) := hc 6 _ (by rw [← HPE.out]; rfl)
          have HTH2 := Lib.hid (HTH.out wr (HYZ.out.below (Nat.le_refl _) HBL.out))
          rw [← HPE.out] at HTH2
          unfold posA at HTH2
          clear hp2 hc
          go_wp2_with fail
          refine HTH2.out.mono ?_
          rintro e w2 ⟨v, rfl, hov, hb2⟩
          have HR2 := Lib.hid (HRW.out.later hb2)
          have HB2 := Lib.hid (HBL.out.trans (hb2.mono HBL.out.size))
          obtain ⟨va, vc, hve, -, -, -, -, hby⟩ := hov.byt (by have := H8.out; omega) HYZ.out.byte
          subst hve
          have HRI := Lib.hid (dr_Right h tr ld ps va vc HW.out HTR.out.1 HTR.out.2 w2 hby)
          unfold posA at HRI
          clear hb2 hov hby c0 c1 c2 c3 c4 c5 c6
          go_wp2_with fail
          refine HRI.out.mono ?_
          rintro e w3 ⟨rfl, hb3⟩
          have HR3 := Lib.hid (HR2.out.later hb3)
          have HB3 := Lib.hid (HB2.out.trans (hb3.mono HB2.out.size))
          clear hb3
          cases hR : rightB h tr ld ps
          · have HRF := Lib.hid hR
            clear hR
            go_wp2_with fail
            go_roundg (4 - (k + 1))
            case measure => omega
            case rel => exact ⟨k + 1, rfl, by omega, by simp, (fun e => by have := HRF.out; rw [e] at this; cases this), HR3.out, HB3.out⟩
          · clear hR
            go_wp2_with fail
            go_ret
            exact ⟨false, rfl, (fun h => by cases h), HB3.out⟩
        · have hp2d : decide ((3 : Int) < (k' : Int)) = false := by simp; omega
          have HPN : Hid (rightB h tr ld ps = true → ∀ s, s < k + 1 → pop (h s) ≤ 3) := Lib.hid (fun e s hs => by
            rcases Nat.lt_or_ge s k with h1 | h1
            · exact HPR.out e s h1
            · obtain rfl : s = k := by omega
              rw [HPP.out]; omega)
          clear hp2
          go_wp2_with fail
          go_roundg (4 - (k + 1))
          case measure => omega
          case rel => exact ⟨k + 1, rfl, by omega, by simp, HPN.out, HRW.out, HBL.out⟩
      · have hmi : (0 : Int) < (m : Int) := by omega
        have hpp : 0 < pop m := by
          rw [pop_len]
          have : ∃ c, m.testBit c = true := by
            refine Classical.byContradiction fun hn => h0 (Nat.eq_of_testBit_eq fun i => ?_)
            rw [Nat.zero_testBit]
            cases hb : m.testBit i
            · rfl
            · exact (hn ⟨i, hb⟩).elim
          obtain ⟨c, hc⟩ := this
          exact List.length_pos_of_mem ((mem_bits hm).2 hc)
        have hpd := pop_drop hm hpp
        have hdr : bits BinOp.and IntKind.u64 (m : Int) (IntKind.u64.wrap ((m : Int) - 1)) = ((land m (m - 1) : Nat) : Int) := by
          have e : IntKind.u64.wrap ((m : Int) - 1) = ((m - 1 : Nat) : Int) := by
            unfold W64 at hm
            rw [IntKind.wrap_u64]; omega
          rw [e]; exact bits_and_nat _ _ hm (by unfold W64 at hm ⊢; omega)
        have hk64 : k' < 64 := by omega
        have HD : Hid (W64 (land m (m - 1)) ∧ pop (land m (m - 1)) + (k' + 1) = p ∧ k' < p) := Lib.hid ⟨W64.land hm, by omega, by omega⟩
        obtain ⟨m2, hm2⟩ : ∃ m2, land m (m - 1) = m2 := ⟨_, rfl⟩
        rw [hm2] at HD hdr
        clear hm2 hm hpk hpd hpp
        go_wp2_with fail
        go_roundg (p - (k' + 1))
        case measure => have := HD.out.2.2; omega
        case rel => exact ⟨m2, k' + 1, rfl, rfl, by go_num, HD.out.1, HD.out.2.1, rfl⟩
    · obtain rfl : k = 4 := by omega
      simp only [show ((4 : Nat) : Int) = 4 from rfl]
      go_wp2_with fail
      go_ret
      exact ⟨true, rfl, fun _ => ⟨H8.out, H60.out, HPR.out⟩, HBL.out⟩
end Go.Proofs.YtnbillhodbcfbaaDoor
