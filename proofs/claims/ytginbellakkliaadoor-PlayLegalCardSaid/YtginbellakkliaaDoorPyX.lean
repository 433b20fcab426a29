/- The contract of a play's Cards over this seat's program. -/
import Derived.Test.YtginbellakkliaaDoorPyW
import Derived.Test.YtginbellakkliaaDoorPyJ
namespace Go.Proofs.YtginbellakkliaaDoor
open Go.RowKit Go.Shelf Go.Sort
attribute [local go_sem] Oper.semAt_some

set_option maxHeartbeats 1000000 in
set_option maxRecDepth 100000 in
theorem ply_cards {w : World} {B base : Nat} {p : Ply} {vs vb : Value} (hp : p.ok) (h : PlyAt w B base p vs vb) :
    Calls Tryd.prog 20 #[.pointer (some ⟨B, 0, none⟩)] w fun e w' => ∃ v, e = .returned v ∧ OwnU w' w.heap.size v (p.steps.map Stp.c) ∧ Below w.heap.size w w' := by
  have HM := Lib.hid (ply_made hp h)
  have hR := h.row
  obtain ⟨a, cap, rfl, hne⟩ := h.ss.slice
  have c14 : w.cell? ⟨B, 14, none⟩ = some (.slice a p.steps.length cap) := hR.cell 14
  have hmany : p.steps.length ≤ 60000 := by have := hp.many; omega
  obtain ⟨i0, hi, hz0, hz1, hz2⟩ := info_parts info_u8'
  obtain ⟨w1, hrun, hown1, hg1⟩ := run_make_own (P := Tryd.prog) w w.heap.size 22 5 i0 (.int .u8 0) 1 Tryd.underlying22 hi hz0 hz1 .i64 .i64 p.steps.length (by rw [hz2]; omega) (by unfold maxLen; omega) (Nat.le_refl _)
  have hb1 : Below w.heap.size w w1 := (Below.refl _ _).grown hg1 (Nat.le_refl _) (fun _ h => by cases h)
  have hR1 := hR.below hR.lt hb1
  have hss := h.ss
  have d14 : w1.cell? ⟨B, 14, none⟩ = some (.slice a p.steps.length cap) := hR1.cell 14
  obtain ⟨n, hn⟩ : ∃ n, p.steps.length = n := ⟨_, rfl⟩
  have hown1' : OwnU w1 w.heap.size (.slice (some ⟨w.heap.size, 0, none⟩) 0 n) [] := ⟨encU_len, by rw [← hn]; exact hown1⟩
  rw [hn] at c14 hmany hrun d14 hss
  have HN := Lib.hid hn
  have HSS := Lib.hid hss
  have HO1 := Lib.hid hown1'
  clear hn hss h hR hR1 hown1 hown1' hg1 hne
  go_enter Tryd.func20, Tryd.ntmps20
  go_wp2_with (go_at_call 41; refine HM.out.mono ?_; rintro e w' ⟨rfl, rfl⟩)
  go_loopw [3, 20] (fun l i wr => ∃ k, k ≤ n ∧ i = .int .i64 (k : Int) ∧ OwnU wr w.heap.size l ((p.steps.take k).map Stp.c) ∧ Below w.heap.size w wr) (fun _ i _ => n - (intOf i).toNat)
  case atStart => exact ⟨0, by omega, rfl, HO1.out, hb1⟩
  case round =>
    obtain ⟨k, hk, rfl, ho, hb⟩ := hrel
    by_cases hkn : k < n
    · have hkl : k < p.steps.length := by rw [HN.out]; exact hkn
      have hxs := hp.steps p.steps[k] (List.getElem_mem hkl)
      have hx : p.steps[k]? = some p.steps[k] := List.getElem?_eq_getElem hkl
      have hS := HSS.out.below hb
      obtain ⟨g, rfl⟩ : ∃ g, a = some ⟨g, 0, none⟩ := by
        rcases hS.form with ⟨_, e⟩ | ⟨g, cp, e, _⟩
        · rw [e] at hkl; simp at hkl
        · exact ⟨g, by injection e⟩
      have hcl := fun j (hj : j < 11) => hS.cell k j hj hx
      have htake : p.steps.take (k + 1) = p.steps.take k ++ [p.steps[k]] := by rw [List.take_add_one, hx]; rfl
      have HTK := Lib.hid htake
      generalize p.steps[k] = x at *
      have e0 := hcl 0 (by omega)
      have e1 := hcl 1 (by omega)
      have e2 := hcl 2 (by omega)
      have e3 := hcl 3 (by omega)
      have e4 := hcl 4 (by omega)
      have e5 := hcl 5 (by omega)
      have e6 := hcl 6 (by omega)
      have e7 := hcl 7 (by omega)
      have e8 := hcl 8 (by omega)
      have e9 := hcl 9 (by omega)
      have e10 := hcl 10 (by omega)
      simp only [List.getElem?_cons_zero, List.getElem?_cons_succ, Nat.add_zero] at e0 e1 e2 e3 e4 e5 e6 e7 e8 e9 e10
      have hc52 := hxs.2
      have HO := Lib.hid ho
      have HB := Lib.hid hb
      clear hcl hx hS hkl hxs ho hb htake
      have hM := HB.out.size
      go_upto_region 7 with fail
      have hX := Row.new wr 92 #[.int .u64 (x.st.h 0 : Int), .int .u64 (x.st.h 1 : Int), .int .u64 (x.st.h 2 : Int), .int .u64 (x.st.h 3 : Int), .int .u8 (x.st.ld : Int), .int .u8 (x.st.ct : Int), .int .u8 (x.st.cs 0 : Int), .int .u8 (x.st.cs 1 : Int), .int .u8 (x.st.cs 2 : Int), .int .u8 (x.st.cs 3 : Int), .int .u8 (x.c : Int)]
      have hOi := HO.out.alloc (.cells #[.int .u64 (x.st.h 0 : Int), .int .u64 (x.st.h 1 : Int), .int .u64 (x.st.h 2 : Int), .int .u64 (x.st.h 3 : Int), .int .u8 (x.st.ld : Int), .int .u8 (x.st.ct : Int), .int .u8 (x.st.cs 0 : Int), .int .u8 (x.st.cs 1 : Int), .int .u8 (x.st.cs 2 : Int), .int .u8 (x.st.cs 3 : Int), .int .u8 (x.c : Int)] 92)
      have hBi := HB.out.alloc hM (.cells #[.int .u64 (x.st.h 0 : Int), .int .u64 (x.st.h 1 : Int), .int .u64 (x.st.h 2 : Int), .int .u64 (x.st.h 3 : Int), .int .u8 (x.st.ld : Int), .int .u8 (x.st.ct : Int), .int .u8 (x.st.cs 0 : Int), .int .u8 (x.st.cs 1 : Int), .int .u8 (x.st.cs 2 : Int), .int .u8 (x.st.cs 3 : Int), .int .u8 (x.c : Int)] 92)
      have hsz : (wr.alloc (.cells #[.int .u64 (x.st.h 0 : Int), .int .u64 (x.st.h 1 : Int), .int .u64 (x.st.h 2 : Int), .int .u64 (x.st.h 3 : Int), .int .u8 (x.st.ld : Int), .int .u8 (x.st.ct : Int), .int .u8 (x.st.cs 0 : Int), .int .u8 (x.st.cs 1 : Int), .int .u8 (x.st.cs 2 : Int), .int .u8 (x.st.cs 3 : Int), .int .u8 (x.c : Int)] 92)).heap.size = wr.heap.size + 1 := World.size_alloc _ _
      generalize wr.alloc (.cells #[.int .u64 (x.st.h 0 : Int), .int .u64 (x.st.h 1 : Int), .int .u64 (x.st.h 2 : Int), .int .u64 (x.st.h 3 : Int), .int .u8 (x.st.ld : Int), .int .u8 (x.st.ct : Int), .int .u8 (x.st.cs 0 : Int), .int .u8 (x.st.cs 1 : Int), .int .u8 (x.st.cs 2 : Int), .int .u8 (x.st.cs 3 : Int), .int .u8 (x.c : Int)] 92) = wi at *
      have hc10 := hX.cell 10
      simp only [List.getElem?_toArray, List.getElem?_cons_zero, List.getElem?_cons_succ] at hc10
      have htl : (((p.steps.take k).map Stp.c)).length ≤ 60000 := by rw [List.length_map, List.length_take]; omega
      have HTL := Lib.hid htl
      generalize hG : wr.heap.size = M at *
      have HSZ := Lib.hid hsz
      clear e0 e1 e2 e3 e4 e5 e6 e7 e8 e9 e10 hX htl hsz
      go_wp2_with (at_builtin; refine appU rfl (.tmp 24) (.tmp 27) rfl w.heap.size _ ((p.steps.take k).map Stp.c) [x.c] rfl (Owns.alloc hOi _) ⟨wi.heap.size, 0, none⟩ 1 1 rfl (byt_new1 wi x.c (by omega)) (by have := HTL.out; omega) (by rw [World.size_alloc]; have := HSZ.out; omega) ?_; intro v' w10 hown' hB10 _ _)
      go_roundw
      case rel => exact ⟨k + 1, by omega, by go_num, by rw [HTK.out, List.map_append]; exact hown', (hBi.alloc (by have := HSZ.out; omega) _).trans hB10⟩
      case measure => simp [intOf]; omega
    · have hke : k = n := by omega
      subst hke
      have HO := Lib.hid ho
      clear ho
      go_wp2_with fail
      refine bodyPost_ret (results_tmp rfl _ _ _) rfl ?_
      exact ⟨_, rfl, by have := HO.out; rwa [← HN.out, List.take_length] at this, hb⟩
end Go.Proofs.YtginbellakkliaaDoor
