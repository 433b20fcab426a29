/- The contract of a play's Trick over this seat's program. -/
import Derived.Test.YtginbellakkliaaDoorMPyx
import Derived.Test.YtginbellakkliaaDoorMLow
import Derived.Deep.Cut
import Derived.Deep.AppendLies
import Derived.Deep.RegionLaw
namespace Go.Proofs.YtginbellakkliaaDoor
open Go.RowKit Go.Shelf Go.Sort
attribute [local go_sem] Oper.semAt_some

def PSt.trLd (s : PSt) : Nat := if s.over then 0 else s.ld
def PSt.trCs (s : PSt) : List Nat := if s.over then [] else s.trick
set_option maxHeartbeats 1000000 in
set_option maxRecDepth 100000 in
theorem ply_Trick {w : World} {B base : Nat} {p : Ply} {vs vb : Value} (hp : p.ok) (h : PlyAt w B base p vs vb) :
    Calls Tryd.prog 24 #[.pointer (some ⟨B, 0, none⟩)] w fun e w' => ∃ v, e = .returned (.tuple #[.int .u8 (p.st.trLd : Int), v]) ∧ OwnU w' w.heap.size v p.st.trCs ∧ Below w.heap.size w w' := by
  have HM := Lib.hid (ply_made hp h)
  have HO := Lib.hid (ply_over h)
  unfold PSt.trLd PSt.trCs
  cases ho : p.st.over
  · rw [ho] at HO
    have HBY := Lib.hid (fun (w1 : World) (hb : Below w.heap.size w w1) => ply_trick hp (h.below hb))
    have hR := h.row
    have c4 := hR.cell 4
    have c5 := hR.cell 5
    simp only [List.getElem?_toArray, List.getElem?_cons_zero, List.getElem?_cons_succ] at c4 c5
    have rc4 := fun dd os => cell_regrown c4 dd os
    have rc5 := fun dd os => cell_regrown c5 dd os
    have hct := hp.st.ct
    have hld := hp.st.ld
    have hsl := trick_run B p.st.ct (by omega)
    have htl := trick_len p.st
    have HTL := Lib.hid htl
    clear htl
    go_enter Tryd.func24, Tryd.ntmps24
    go_upto_region 3 with (first
      | (go_at_call 41; refine HM.out.mono ?_; rintro e w' ⟨rfl, rfl⟩)
      | (go_at_call 42; refine HO.out.mono ?_; rintro e w' ⟨rfl, rfl⟩))
    by_cases h0 : p.st.ct = 0
    · have ht0 : p.st.trick = [] := by unfold PSt.trick; rw [h0]; rfl
      have HT0 := Lib.hid ht0
      clear ht0
      rw [h0] at hsl c5
      clear rc4 rc5
      obtain ⟨i0, hi, hz0, hz1, hz2⟩ := info_parts info_u8'
      go_region
      all_goals (
        go_wp2_with fail
        go_ret2
        exact ⟨_, rfl, by rw [HT0.out]; exact Owns.nil encU_len _ _, (Below.refl w.heap.size w).drew⟩)
    · have hby := byt_row (HBY.out w (Below.refl _ _)) ⟨B, 6, none⟩ rfl
      have hi := info_parts info_u8'
      obtain ⟨i0, hi, hz0, hz1, hz2⟩ := hi
      have hfl := flatU_len p.st.trick
      have HFL := Lib.hid hfl
      have hBl := hR.lt
      clear hfl
      go_region_law (refine step_append_lies _ rfl (.const (.slice none 0 0)) (.tmp 25) 22 rfl w.heap.size 5 i0 (.int .u8 0) 1 1 Tryd.underlying22 hi hz0 hz1 hz2 rfl (by decide) (.slice none 0 0) 0 [] (by simp [Act.eval]) (World.ownsRow_nil _ _ _ _) ⟨B, 6, none⟩ p.st.ct 4 (p.st.trick.flatMap encU) (by first | rfl | simp [Act.eval, Act.put]) (by rw [HFL.out, HTL.out, Nat.mul_one]) hby (flatU_one _) (by omega) (by unfold maxLen; omega) (by omega) (Nat.le_refl _) _ rfl ?_; intro g cp w4 h2 h3 h4 h5; have hR4 : Row w4 B 85 (p.cells vs vb) := hR.same (h3.block B hBl (by simp [Value.ownBlock])); have c4' : w4.cell? ⟨B, 4, none⟩ = some (.int .u8 (p.st.ld : Int)) := hR4.cell 4)
      all_goals (
        have hBz : Below w.heap.size w w4 := ((Below.refl w.heap.size w).drew).grown h3 (Nat.le_refl _) (fun k hk => by cases hk)
        have hz : OwnU w4 w.heap.size (.slice (some ⟨g, 0, none⟩) p.st.ct cp) p.st.trick := ⟨encU_len, by have := h2; rw [Nat.zero_add, List.nil_append] at this; rw [HTL.out]; exact this⟩
        go_wp2_with fail
        go_ret2
        exact ⟨_, rfl, hz, hBz⟩)
  · rw [ho] at HO
    go_enter Tryd.func24, Tryd.ntmps24
    go_wp2_with (first
      | (go_at_call 41; refine HM.out.mono ?_; rintro e w' ⟨rfl, rfl⟩)
      | (go_at_call 42; refine HO.out.mono ?_; rintro e w' ⟨rfl, rfl⟩))
    go_ret2
    exact ⟨_, rfl, Owns.nil encU_len _ _, Below.refl _ _⟩
theorem in_Trick {W : World} {B : Nat} {p : Ply} {G : Nat → Prop} (h : InP W B p G) :
    Calls Tryd.prog 24 #[.pointer (some ⟨B, 0, none⟩)] W fun e W' => ∃ v, e = .returned (.tuple #[.int .u8 (p.st.trLd : Int), v]) ∧ OwnU W' W.heap.size v p.st.trCs ∧ Below W.heap.size W W' := by
  obtain ⟨vs, vb, h1, _⟩ := h.mem
  exact ply_Trick h.ok h1
end Go.Proofs.YtginbellakkliaaDoor
