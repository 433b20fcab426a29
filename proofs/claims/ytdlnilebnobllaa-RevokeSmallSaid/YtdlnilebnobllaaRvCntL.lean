/- revoke.count (lemmas) over this seat's program. -/
import Derived.Test.YtdlnilebnobllaaRvFin
import Derived.Test.YtdlnilebnobllaaRevG
import Derived.Deep.LoopGhost
import Derived.Test.YtdlnilebnobllaaMSide
import Derived.Test.YtdlnilebnobllaaQTail
import Derived.RegionTactic
import Derived.BigRegion
namespace Go.Proofs.Ytdlnilebnobllaa
open Go.RowKit Go.Shelf Go.Sort

theorem rev_count_no (r : Rc) (a : Option Addr) (len cap : Nat) (w : World) (E : Nat) (hE : E ≠ 0) (HF : ∀ w1, Below w.heap.size w w1 → Calls Try.prog 21 #[r.v a len cap] w1 fun e w' => e = .returned (.tuple #[.slice none 0 0, .int .i64 (E : Int)]) ∧ Below w1.heap.size w1 w') :
    Calls Try.prog 36 #[r.v a len cap] w fun e w' => e = .returned (.tuple #[.agg #[.int .i64 0, .int .i64 0], .agg #[.int .i64 0, .int .i64 0], .int .i64 (E : Int)]) ∧ Below w.heap.size w w' := by
  have HFI := Lib.hid HF
  clear HF
  have hE' : ((E : Int) != 0) = true := by rw [bne_iff_ne]; omega
  go_enter Try.func36, Try.ntmps36
  go_wp2_with fail
  have hB := (((((Below.refl w.heap.size w).alloc (Nat.le_refl _) (.cells (r.cells a len cap) 27)).alloc (by simp) (.cells #[.int .i64 0, .int .i64 0] 43)).alloc (by simp; omega) (.cells #[.int .i64 0, .int .i64 0] 43)).alloc (by simp; omega) (.cells #[.int .i64 0, .int .i64 0] 43)).alloc (by simp; omega) (.cells #[.int .i64 0, .int .i64 0] 43)
  refine (HFI.out _ hB).mono ?_
  rintro e w1 ⟨rfl, hb1⟩
  have hsz1 := hb1.size
  have hR1 := ((Row.new ((w.alloc (.cells (r.cells a len cap) 27)).alloc (.cells #[.int .i64 0, .int .i64 0] 43)) 43 #[.int .i64 0, .int .i64 0]).alloc (.cells #[.int .i64 0, .int .i64 0] 43)).alloc (.cells #[.int .i64 0, .int .i64 0] 43)
  have hR2 := ((Row.new (w.alloc (.cells (r.cells a len cap) 27)) 43 #[.int .i64 0, .int .i64 0]).alloc (.cells #[.int .i64 0, .int .i64 0] 43)).alloc (.cells #[.int .i64 0, .int .i64 0] 43) |>.alloc (.cells #[.int .i64 0, .int .i64 0] 43)
  have hR3 := (Row.new (((w.alloc (.cells (r.cells a len cap) 27)).alloc (.cells #[.int .i64 0, .int .i64 0] 43)).alloc (.cells #[.int .i64 0, .int .i64 0] 43)) 43 #[.int .i64 0, .int .i64 0]).alloc (.cells #[.int .i64 0, .int .i64 0] 43)
  have hR4 := Row.new ((((w.alloc (.cells (r.cells a len cap) 27)).alloc (.cells #[.int .i64 0, .int .i64 0] 43)).alloc (.cells #[.int .i64 0, .int .i64 0] 43)).alloc (.cells #[.int .i64 0, .int .i64 0] 43)) 43 #[.int .i64 0, .int .i64 0]
  simp only [World.size_alloc] at hR1 hR2 hR3 hR4 hsz1
  have q1 := hR1.below (by simp) hb1
  have q2 := hR2.below (by simp) hb1
  have q3 := hR3.below (by simp) hb1
  have q4 := hR4.below (by simp) hb1
  have hBB := Lib.hid (hB.trans (hb1.mono (by simp; omega)))
  clear hR1 hR2 hR3 hR4 hB hb1
  have z30 := q3.cell 0
  have z31 := q3.cell 1
  have z40 := q4.cell 0
  have z41 := q4.cell 1
  simp at z30 z31 z40 z41
  have s10 := q1.cell 0
  have s11 := q1.cell 1
  have s20 := q2.cell 0
  have s21 := q2.cell 1
  have f10 := q1.frozen 0
  have f11 := q1.frozen 1
  have f20 := q2.frozen 0
  have f21 := q2.frozen 1
  simp at s10 s11 s20 s21
  go_wp2
  go_region
  go_wp2
  refine bodyPost_ret (v := .tuple #[.agg #[.int .i64 0, .int .i64 0], .agg #[.int .i64 0, .int .i64 0], .int .i64 (E : Int)]) (by simp [results, Try.results36, go_sem, s10, s11, s20, s21]) rfl ⟨rfl, ?_⟩
  exact ((((hBB.out.setCell (by simp) _).setCell (by simp) _).setCell (by simp; omega) _).setCell (by simp; omega) _).drew

theorem pop_le (x : Nat) : pop x ≤ 64 := cnt_le x 64
theorem wins_byte {r : Rc} {len cap : Nat} (hok : r.ok len cap) : ∀ i, (winsTo r.rnds).getD i 0 < 256 := by
  intro i
  rw [List.getD_eq_getElem?_getD]
  cases h : (winsTo r.rnds)[i]? with
  | none => simp
  | some z =>
    have hz := List.mem_of_getElem? h
    simp only [winsTo, List.mem_map, List.mem_filter] at hz
    obtain ⟨x, ⟨hx, _⟩, rfl⟩ := hz
    obtain ⟨_, _, _, _, _, _, h6⟩ := rnd_in r.t r.zs.length 0 r.h ((r.d + 1) % 4) r.zs x (Nat.le_refl _) hx hok.h (Nat.mod_lt _ (by omega))
    simp only [Option.getD_some]; omega
/-- what revoke.count returns -/
def Rc.cnt (r : Rc) : (Nat × Nat) × (Nat × Nat) × Nat :=
  if r.zs.length < 4 * pop (r.h 0) then ((0, 0), (0, 0), 132)
  else ((if sideV (findAll r.rnds) 0 && sideV (findAll r.rnds) 1 then (0, 0) else ((cntAll r.d (winsTo r.rnds) (findAll r.rnds)).s0, (cntAll r.d (winsTo r.rnds) (findAll r.rnds)).s1)), (wonV (winsTo r.rnds) 0 0, wonV (winsTo r.rnds) 1 0), 0)
abbrev pairV (x : Nat × Nat) : Value := .agg #[.int .i64 (x.1 : Int), .int .i64 (x.2 : Int)]
theorem rev_sides_any (l : List Rvk) (base : Nat) (v : Value) (w : World) (hown : OwnV w base v l) (hlen : l.length ≤ 60000) :
    Calls Try.prog 53 #[v] w fun e w' => e = .returned (.agg #[.bool (sideV l 0), .bool (sideV l 1)]) ∧ Below w.heap.size w w' := by
  rcases hown.form with ⟨rfl, rfl⟩ | ⟨g, cap, rfl, h1, h2, h3, h4⟩
  · have HB := Lib.hid (show ∀ o o', Below w.heap.size w ((w.alloc o).alloc o') from fun o o' => ((Below.refl _ _).alloc (Nat.le_refl _) _).alloc (by simp) _)
    have hR := (Row.new w 52 #[.bool false, .bool false]).alloc (.cells #[.bool false, .bool false] 52)
    have hS := Row.new (w.alloc (.cells #[.bool false, .bool false] 52)) 52 #[.bool false, .bool false]
    simp only [World.size_alloc] at hS
    have d0 := hS.cell 0
    have d1 := hS.cell 1
    have r0 := hR.cell 0
    have r1 := hR.cell 1
    have f0 := hR.frozen 0
    have f1 := hR.frozen 1
    clear hown
    simp at d0 d1 r0 r1
    go_enter Try.func53, Try.ntmps53
    go_wp2
    refine wp_loop_rounds 1 ?_
    rw [rounds_succ]
    go_wp2
    refine bodyPost_ret (v := .agg #[.bool false, .bool false]) (by simp [results, Try.results53, go_sem]) rfl ⟨rfl, ?_⟩
    exact HB.out _ _
  · exact rev_sides l base g l.length cap w rfl hown hlen h2

/-- at the head of a round of the loop of revoke.count -/
def CntRel (N M : Nat) (ls : List Rvk) (ws : List Nat) (d : Nat) (S : Nat → Prop) (w7 : World) (lm i : Value) (wr : World) : Prop :=
  ∃ k : Nat, k ≤ ls.length ∧ i = .int .i64 (k : Int) ∧ lm = .int .i64 ((cntAll d ws (ls.take k)).lim : Int) ∧ MapP wr M (cntAll d ws (ls.take k)).met ∧
    Row wr (N + 1 + 1 + 1) 43 #[.int .i64 ((cntAll d ws (ls.take k)).s0 : Int), .int .i64 ((cntAll d ws (ls.take k)).s1 : Int)] ∧ (cntAll d ws (ls.take k)).ok ws.length ∧ Kept S w7 wr ∧ Below N w7 wr
theorem CntRel.next {N M : Nat} {ls : List Rvk} {ws : List Nat} {d : Nat} {S : Nat → Prop} {w7 w9 w10 : World} {k : Nat} {c' : Cnt} {cs : Array Value} (hk : k < ls.length) (hall : cntAll d ws (ls.take (k + 1)) = c')
    (hmp : MapP w9 M c'.met) (hsm : Row w9 (N + 1 + 1 + 1) 43 cs) (hcok : c'.ok ws.length) (hkp : Kept S w7 w9) (hbl : Below N w7 w9) (hb10 : Below w9.heap.size w9 w10) (hnS : ¬ S (N + 1 + 1 + 1)) (hM : M ≠ N + 1 + 1 + 1) (i : Nat) (v : Value)
    (hcs : cs.setIfInBounds i v = #[.int .i64 (c'.s0 : Int), .int .i64 (c'.s1 : Int)]) :
    CntRel N M ls ws d S w7 (.int .i64 (c'.lim : Int)) (.int .i64 ((k : Int) + 1)) (w10.setCell ⟨N + 1 + 1 + 1, i, none⟩ v) := by
  subst hall
  have hNlt := hsm.lt
  refine ⟨k + 1, by omega, by push_cast; rfl, rfl, ?_, ?_, hcok, ?_, ?_⟩
  · refine (hmp.same (hb10.block _ hmp.lt)).same ?_
    exact Below.heap_setCell _ _ _ _ (by simpa using hM)
  · have := (hsm.below hsm.lt hb10).set i v
    rwa [hcs] at this
  · exact (hkp.trans (Kept.of_below hb10)).setCell hnS _
  · exact (hbl.trans (hb10.mono (by omega))).setCell (by simp; omega) _
end Go.Proofs.Ytdlnilebnobllaa
