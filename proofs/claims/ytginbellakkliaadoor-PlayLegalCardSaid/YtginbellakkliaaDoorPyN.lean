/- The plays of the example of finesselaw12.awake, step by step, over this seat's program. -/
import Derived.Test.YtginbellakkliaaDoorPyM
namespace Go.Proofs.YtginbellakkliaaDoor
open Go.RowKit Go.Shelf Go.Sort

/-- four numbers -/
def L4 (a b c d : Nat) : Nat → Nat
  | 0 => a | 1 => b | 2 => c | 3 => d | _ => 0
theorem put_ok {s : PSt} (h : s.ok) (dn : Nat) {c : Nat} (hc : c < 52) : (s.put dn c).ok := by
  have hh : ∀ j, W64 (setH s.h s.next (landn (s.h s.next) (shl1 c)) j) := W64.setH h.h _ _ ((h.h _).landn)
  unfold PSt.put
  split
  · exact ⟨hh, seatV_lt _ _ _, (by show 0 < 4; decide), fun _ => (by show 0 < 52; decide)⟩
  · refine ⟨hh, h.ld, (by have := h.ct; show s.ct + 1 < 4; omega), fun j => ?_⟩
    show setH s.cs s.ct c j < 52
    unfold setH; split
    · exact hc
    · exact h.cs j
theorem Ply.put_ok {p : Ply} (h : p.ok) {c : Nat} (hc : c < 52) (hm : p.steps.length + 1 + p.back.length ≤ 60000) : (p.put c).ok :=
  ⟨Go.Proofs.YtginbellakkliaaDoor.put_ok h.st _ hc, h.lv, h.dn, h.rk, h.dc, (fun x hx => by rcases List.mem_append.1 hx with hx | hx; exact h.steps x hx; (obtain rfl := List.mem_singleton.1 hx; exact ⟨h.st, hc⟩)), h.back, by show (p.steps ++ [_]).length + p.back.length ≤ _; rw [List.length_append]; simpa using hm⟩
theorem doV_ok {p : Ply} (h : p.ok) (c : Nat) (hm : p.steps.length < 60000) : (p.doV c).2.ok := by
  unfold Ply.doV
  split
  · exact h
  · split
    · rename_i h1
      exact Ply.put_ok (p := { p with back := [] }) ⟨h.st, h.lv, h.dn, h.rk, h.dc, h.steps, (fun x hx => by cases hx), by show p.steps.length + 0 ≤ 60000; omega⟩ h1.1 (by show p.steps.length + 1 + 0 ≤ 60000; omega)
    · exact h
theorem undoV_ok {p : Ply} (h : p.ok) : p.undoV.2.ok := by
  rcases List.eq_nil_or_concat p.steps with hs | ⟨init, x, hs⟩
  · have hu : p.undoV = (6, p) := by unfold Ply.undoV; rw [hs]; rfl
    rw [hu]; exact h
  · rw [List.concat_eq_append] at hs
    have hu : p.undoV = (0, { p with st := x.st, steps := init, back := p.back ++ [x.c] }) := by
      unfold Ply.undoV; rw [hs]; simp
    rw [hu]
    have hx := h.steps x (by rw [hs]; simp)
    refine ⟨hx.1, h.lv, h.dn, h.rk, h.dc, fun y hy => h.steps y (by rw [hs]; simp [show y ∈ init from hy]), fun c hc => ?_, ?_⟩
    · rcases List.mem_append.1 (show c ∈ p.back ++ [x.c] from hc) with h1 | h1
      · exact h.back c h1
      · rw [List.mem_singleton.1 h1]; exact hx.2
    · have := h.many
      rw [hs] at this
      show init.length + (p.back ++ [x.c]).length ≤ 60000
      simp at this ⊢; omega
theorem put_far (s : PSt) (dn c j : Nat) (hh : ∀ j, 4 ≤ j → s.h j = 0) (hc : ∀ j, 4 ≤ j → s.cs j = 0) (hct : s.ct < 4) (hj : 4 ≤ j) : (s.put dn c).h j = 0 ∧ (s.put dn c).cs j = 0 := by
  have hn : s.next < 4 := Nat.mod_lt _ (by decide)
  unfold PSt.put
  split
  · exact ⟨by show setH _ _ _ _ = 0; unfold setH; rw [if_neg (by omega)]; exact hh j hj, rfl⟩
  · exact ⟨by show setH _ _ _ _ = 0; unfold setH; rw [if_neg (by omega)]; exact hh j hj, by show setH _ _ _ _ = 0; unfold setH; rw [if_neg (by omega)]; exact hc j hj⟩
theorem L4_far (a b c d j : Nat) (h : 4 ≤ j) : L4 a b c d j = 0 := by
  obtain ⟨k, rfl⟩ : ∃ k, j = k + 4 := ⟨j - 4, by omega⟩
  rfl
theorem L4_eq {f : Nat → Nat} {a b c d : Nat} (h0 : f 0 = a) (h1 : f 1 = b) (h2 : f 2 = c) (h3 : f 3 = d) (hf : ∀ j, 4 ≤ j → f j = 0) : f = L4 a b c d := by
  funext j
  rcases (show j = 0 ∨ j = 1 ∨ j = 2 ∨ j = 3 ∨ 4 ≤ j by omega) with rfl | rfl | rfl | rfl | hj
  · exact h0
  · exact h1
  · exact h2
  · exact h3
  · rw [hf j hj, L4_far _ _ _ _ _ hj]
theorem put_lit {a b c d ld ct x y z t dn k a' b' c' d' ld' ct' x' y' z' t' : Nat}
    (h : (let P := (⟨L4 a b c d, ld, ct, L4 x y z t⟩ : PSt).put dn k; ct < 4 ∧ P.h 0 = a' ∧ P.h 1 = b' ∧ P.h 2 = c' ∧ P.h 3 = d' ∧ P.ld = ld' ∧ P.ct = ct' ∧ P.cs 0 = x' ∧ P.cs 1 = y' ∧ P.cs 2 = z' ∧ P.cs 3 = t')) :
    (⟨L4 a b c d, ld, ct, L4 x y z t⟩ : PSt).put dn k = ⟨L4 a' b' c' d', ld', ct', L4 x' y' z' t'⟩ := by
  have hf := fun j hj => put_far (⟨L4 a b c d, ld, ct, L4 x y z t⟩ : PSt) dn k j (fun j => L4_far _ _ _ _ j) (fun j => L4_far _ _ _ _ j) h.1 hj
  generalize (⟨L4 a b c d, ld, ct, L4 x y z t⟩ : PSt).put dn k = P at *
  obtain ⟨-, h0, h1, h2, h3, h4, h5, h6, h7, h8, h9⟩ := h
  obtain ⟨ph, pl, pc, pcs⟩ := P
  subst h4 h5
  rw [show ph = L4 a' b' c' d' from L4_eq h0 h1 h2 h3 fun j hj => (hf j hj).1, show pcs = L4 x' y' z' t' from L4_eq h6 h7 h8 h9 fun j hj => (hf j hj).2]
def aws0 : PSt := ⟨(L4 8193 16386 32772 33558528), 3, 0, (L4 0 0 0 0)⟩
def aws1 : PSt := ⟨(L4 8193 16386 32772 33554432), 3, 1, (L4 12 0 0 0)⟩
def aws2 : PSt := ⟨(L4 8192 16386 32772 33554432), 3, 2, (L4 12 0 0 0)⟩
def aws3 : PSt := ⟨(L4 8192 16384 32772 33554432), 3, 3, (L4 12 0 1 0)⟩
def aws4 : PSt := ⟨(L4 8192 16384 32768 33554432), 3, 0, (L4 0 0 0 0)⟩
def aws5 : PSt := ⟨(L4 8192 16384 32768 0), 3, 1, (L4 25 0 0 0)⟩
def aws6 : PSt := ⟨(L4 0 16384 32768 0), 3, 2, (L4 25 13 0 0)⟩
def aws7 : PSt := ⟨(L4 0 0 32768 0), 3, 3, (L4 25 13 14 0)⟩
def aws8 : PSt := ⟨(L4 0 0 0 0), 3, 0, (L4 0 0 0 0)⟩
def aw0 : Ply := ⟨aws0, 1, 4, 0, 2, [], []⟩
def aw1 : Ply := ⟨aws1, 1, 4, 0, 2, [⟨aws0, 12⟩], []⟩
def aw2 : Ply := ⟨aws2, 1, 4, 0, 2, [⟨aws0, 12⟩, ⟨aws1, 0⟩], []⟩
def aw3 : Ply := ⟨aws3, 1, 4, 0, 2, [⟨aws0, 12⟩, ⟨aws1, 0⟩, ⟨aws2, 1⟩], []⟩
def aw4 : Ply := ⟨aws4, 1, 4, 0, 2, [⟨aws0, 12⟩, ⟨aws1, 0⟩, ⟨aws2, 1⟩, ⟨aws3, 2⟩], []⟩
def aw5 : Ply := ⟨aws5, 1, 4, 0, 2, [⟨aws0, 12⟩, ⟨aws1, 0⟩, ⟨aws2, 1⟩, ⟨aws3, 2⟩, ⟨aws4, 25⟩], []⟩
def aw6 : Ply := ⟨aws6, 1, 4, 0, 2, [⟨aws0, 12⟩, ⟨aws1, 0⟩, ⟨aws2, 1⟩, ⟨aws3, 2⟩, ⟨aws4, 25⟩, ⟨aws5, 13⟩], []⟩
def aw7 : Ply := ⟨aws7, 1, 4, 0, 2, [⟨aws0, 12⟩, ⟨aws1, 0⟩, ⟨aws2, 1⟩, ⟨aws3, 2⟩, ⟨aws4, 25⟩, ⟨aws5, 13⟩, ⟨aws6, 14⟩], []⟩
def aw8 : Ply := ⟨aws8, 1, 4, 0, 2, [⟨aws0, 12⟩, ⟨aws1, 0⟩, ⟨aws2, 1⟩, ⟨aws3, 2⟩, ⟨aws4, 25⟩, ⟨aws5, 13⟩, ⟨aws6, 14⟩, ⟨aws7, 15⟩], []⟩
def au1 : Ply := ⟨aws7, 1, 4, 0, 2, [⟨aws0, 12⟩, ⟨aws1, 0⟩, ⟨aws2, 1⟩, ⟨aws3, 2⟩, ⟨aws4, 25⟩, ⟨aws5, 13⟩, ⟨aws6, 14⟩], [15]⟩
def au2 : Ply := ⟨aws6, 1, 4, 0, 2, [⟨aws0, 12⟩, ⟨aws1, 0⟩, ⟨aws2, 1⟩, ⟨aws3, 2⟩, ⟨aws4, 25⟩, ⟨aws5, 13⟩], [15, 14]⟩
def au3 : Ply := ⟨aws5, 1, 4, 0, 2, [⟨aws0, 12⟩, ⟨aws1, 0⟩, ⟨aws2, 1⟩, ⟨aws3, 2⟩, ⟨aws4, 25⟩], [15, 14, 13]⟩
def au4 : Ply := ⟨aws4, 1, 4, 0, 2, [⟨aws0, 12⟩, ⟨aws1, 0⟩, ⟨aws2, 1⟩, ⟨aws3, 2⟩], [15, 14, 13, 25]⟩
def au5 : Ply := ⟨aws3, 1, 4, 0, 2, [⟨aws0, 12⟩, ⟨aws1, 0⟩, ⟨aws2, 1⟩], [15, 14, 13, 25, 2]⟩
def au6 : Ply := ⟨aws2, 1, 4, 0, 2, [⟨aws0, 12⟩, ⟨aws1, 0⟩], [15, 14, 13, 25, 2, 1]⟩
def au7 : Ply := ⟨aws1, 1, 4, 0, 2, [⟨aws0, 12⟩], [15, 14, 13, 25, 2, 1, 0]⟩
def au8 : Ply := ⟨aws0, 1, 4, 0, 2, [], [15, 14, 13, 25, 2, 1, 0, 12]⟩
theorem aw_put0 : aws0.put 4 12 = aws1 := put_lit (by decide +kernel)
theorem aw_do0 : aw0.doV 12 = (0, aw1) := by
  unfold Ply.doV
  rw [if_neg (by decide +kernel), if_pos (by decide +kernel)]
  show (0, ({ st := aws0.put 4 12, lv := 1, dn := 4, rk := 0, dc := 2, steps := _, back := [] } : Ply)) = _
  rw [aw_put0]; rfl
theorem aw_put1 : aws1.put 4 0 = aws2 := put_lit (by decide +kernel)
theorem aw_do1 : aw1.doV 0 = (0, aw2) := by
  unfold Ply.doV
  rw [if_neg (by decide +kernel), if_pos (by decide +kernel)]
  show (0, ({ st := aws1.put 4 0, lv := 1, dn := 4, rk := 0, dc := 2, steps := _, back := [] } : Ply)) = _
  rw [aw_put1]; rfl
theorem aw_put2 : aws2.put 4 1 = aws3 := put_lit (by decide +kernel)
theorem aw_do2 : aw2.doV 1 = (0, aw3) := by
  unfold Ply.doV
  rw [if_neg (by decide +kernel), if_pos (by decide +kernel)]
  show (0, ({ st := aws2.put 4 1, lv := 1, dn := 4, rk := 0, dc := 2, steps := _, back := [] } : Ply)) = _
  rw [aw_put2]; rfl
theorem aw_put3 : aws3.put 4 2 = aws4 := put_lit (by decide +kernel)
theorem aw_do3 : aw3.doV 2 = (0, aw4) := by
  unfold Ply.doV
  rw [if_neg (by decide +kernel), if_pos (by decide +kernel)]
  show (0, ({ st := aws3.put 4 2, lv := 1, dn := 4, rk := 0, dc := 2, steps := _, back := [] } : Ply)) = _
  rw [aw_put3]; rfl
theorem aw_put4 : aws4.put 4 25 = aws5 := put_lit (by decide +kernel)
theorem aw_do4 : aw4.doV 25 = (0, aw5) := by
  unfold Ply.doV
  rw [if_neg (by decide +kernel), if_pos (by decide +kernel)]
  show (0, ({ st := aws4.put 4 25, lv := 1, dn := 4, rk := 0, dc := 2, steps := _, back := [] } : Ply)) = _
  rw [aw_put4]; rfl
theorem aw_put5 : aws5.put 4 13 = aws6 := put_lit (by decide +kernel)
theorem aw_do5 : aw5.doV 13 = (0, aw6) := by
  unfold Ply.doV
  rw [if_neg (by decide +kernel), if_pos (by decide +kernel)]
  show (0, ({ st := aws5.put 4 13, lv := 1, dn := 4, rk := 0, dc := 2, steps := _, back := [] } : Ply)) = _
  rw [aw_put5]; rfl
theorem aw_put6 : aws6.put 4 14 = aws7 := put_lit (by decide +kernel)
theorem aw_do6 : aw6.doV 14 = (0, aw7) := by
  unfold Ply.doV
  rw [if_neg (by decide +kernel), if_pos (by decide +kernel)]
  show (0, ({ st := aws6.put 4 14, lv := 1, dn := 4, rk := 0, dc := 2, steps := _, back := [] } : Ply)) = _
  rw [aw_put6]; rfl
theorem aw_put7 : aws7.put 4 15 = aws8 := put_lit (by decide +kernel)
theorem aw_do7 : aw7.doV 15 = (0, aw8) := by
  unfold Ply.doV
  rw [if_neg (by decide +kernel), if_pos (by decide +kernel)]
  show (0, ({ st := aws7.put 4 15, lv := 1, dn := 4, rk := 0, dc := 2, steps := _, back := [] } : Ply)) = _
  rw [aw_put7]; rfl
theorem aw_no : aw0.doV 0 = (122, aw0) := by
  unfold Ply.doV
  rw [if_neg (by decide +kernel), if_neg (by decide +kernel)]
theorem aw_over : aw8.doV 0 = (121, aw8) := by
  unfold Ply.doV
  rw [if_pos (by decide +kernel)]
theorem aw_un0 : aw8.undoV = (0, au1) := rfl
theorem aw_un1 : au1.undoV = (0, au2) := rfl
theorem aw_un2 : au2.undoV = (0, au3) := rfl
theorem aw_un3 : au3.undoV = (0, au4) := rfl
theorem aw_un4 : au4.undoV = (0, au5) := rfl
theorem aw_un5 : au5.undoV = (0, au6) := rfl
theorem aw_un6 : au6.undoV = (0, au7) := rfl
theorem aw_un7 : au7.undoV = (0, au8) := rfl
theorem aw_none : au8.undoV = (6, au8) := rfl
theorem aw_new : newE (L4 8193 16386 32772 33558528) 1 4 0 2 = 0 := by decide +kernel
theorem aw_newP : newP (L4 8193 16386 32772 33558528) 1 4 0 2 = aw0 := by
  unfold newP aw0 aws0
  rw [show (fun _ => 0 : Nat → Nat) = L4 0 0 0 0 from L4_eq rfl rfl rfl rfl fun _ _ => rfl]
theorem aw_turn0 : aw0.turnV = (3, 0) := by decide +kernel
theorem aw_turn1 : aw1.turnV = (0, 0) := by decide +kernel
theorem aw_chooser1 : aw1.chooserV = (2, 0) := by decide +kernel
theorem aw_legal1 : aw1.st.legal = 1 := by decide +kernel
theorem aw_turn4 : aw4.turnV = (3, 0) := by decide +kernel
theorem aw_res4 : aw4.resV = (0, 123) := by decide +kernel
theorem aw_res8 : aw8.resV = (0, 0) := by decide +kernel
theorem aw_ns8 : tkWon aw8.tks 0 = 0 := by decide +kernel
theorem aw_ew8 : tkWon aw8.tks 1 = 2 := by decide +kernel
theorem aw_turn9 : au8.turnV = (3, 0) := by decide +kernel
theorem aw_hid0 : hidV aw0.st.h (aw0.seenH 2) = 33583107 := by decide +kernel
theorem aw_hid1 : hidV aw1.st.h (aw1.seenH 2) = 33570818 := by decide +kernel
theorem aw_seen0 : arr4 (aw0.seenH 2) = #[.int .u64 0, .int .u64 0, .int .u64 32772, .int .u64 0] := by kernel_rfl
theorem aw_seen1 : arr4 (aw1.seenH 2) = #[.int .u64 8193, .int .u64 0, .int .u64 32772, .int .u64 0] := by kernel_rfl
end Go.Proofs.YtginbellakkliaaDoor
