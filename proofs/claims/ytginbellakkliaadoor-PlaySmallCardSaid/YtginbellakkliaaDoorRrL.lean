/- finesselaw12.lines over this seat's program: all lines from a play on. -/
import Derived.Test.YtginbellakkliaaDoorRrG
import Derived.Test.YtginbellakkliaaDoorMRrh
namespace Go.Proofs.YtginbellakkliaaDoor
open Go.RowKit Go.Shelf Go.Sort Go.Maps Go.WideMaps
attribute [local go_sem] Oper.semAt_some

theorem InP.less {W : World} {B : Nat} {p : Ply} {G G' : Nat → Prop} (h : InP W B p G) (hg : ∀ g, G' g → G g) (ht : G' 0) : InP W B p G' := by
  obtain ⟨vs, vb, h1, h2, h3⟩ := h.mem
  exact ⟨h.ok, ⟨vs, vb, h1, fun g e hb => h2 g e (hg g hb), fun g e hb => h3 g e (hg g hb)⟩, fun hb => h.nb (hg _ hb), fun g hb => h.lt g (hg g hb), h.tab, ht⟩
/-- a play with something taken back -/
abbrev Ply.wb (P : Ply) (b : List Nat) : Ply := { P with back := b }
variable {d : Nat → Nat} {n : Nat} {P : Ply}
/-- a card more -/
def Ply.nx (P : Ply) (c : Nat) : Ply := ({ P with back := [] } : Ply).put c
theorem wb_do (h : Tied d n P) (hd : Deal4 d n) {c : Nat} (hc : P.st.legal.testBit c = true) (b : List Nat) : (P.wb b).doV c = (0, P.nx c) := by
  have h52 : c < 52 := by
    have hi := h.pinv
    have e : (P.at P.steps.length []).st = P.st := Tied.st_at P
    exact hi.legal_52 hd (by rw [e]; exact hc)
  have ho : P.st.over = false := by
    cases hov : P.st.over
    · rfl
    · rw [legal_over hov] at hc; simp at hc
  unfold Ply.doV
  show (if P.st.over = true then _ else if c < 52 ∧ P.st.legal.testBit c = true then _ else _) = _
  rw [if_neg (by rw [ho]; decide), if_pos ⟨h52, hc⟩]
  rfl
theorem wb_undo (P : Ply) (c : Nat) (b : List Nat) : ((P.nx c).wb b).undoV = (0, P.wb (b ++ [c])) := by
  unfold Ply.undoV
  show (match (P.steps ++ [(⟨P.st, c⟩ : Stp)]).getLast? with | none => _ | some x => _) = _
  rw [List.getLast?_append]
  simp [Ply.nx, Ply.put, Ply.wb]
theorem wb_left (h : Tied d n P) (hd : Deal4 d n) {c m : Nat} (hc : P.st.legal.testBit c = true) (hm : P.steps.length + m = 4 * n) : m ≠ 0 := by
  rintro rfl
  have ho : P.st.over = true := by
    rw [← h.over hd]
    unfold Rp.over
    show (P.cds.length == 4 * pop (d 0)) = true
    rw [cds_len, hd.pop 0 (by decide), beq_iff_eq]; omega
  rw [legal_over ho] at hc
  simp at hc
theorem nx_len (P : Ply) (c : Nat) : (P.nx c).steps.length = P.steps.length + 1 := by simp [Ply.nx, Ply.put]
theorem nx_wb (P : Ply) (c : Nat) : P.nx c = (P.nx c).wb [] := rfl
theorem nx_ok (hp : P.ok) (hd : Deal4 d n) (h : Tied d n P) {c : Nat} (hc : P.st.legal.testBit c = true) : (P.nx c).ok := by
  have := doV_ok hp c (by have := h.len52 hd hp; omega)
  have e := wb_do h hd hc P.back
  rw [show P.wb P.back = P from rfl] at e
  rwa [e] at this
theorem wb_ok {b : List Nat} (h : (P.wb b).ok) : P.st.ok ∧ ∀ c ∈ b, c < 52 := ⟨h.st, h.back⟩
theorem rl_legal {W : World} {bk : List Nat} {PA : Array Value} {G : Nat → Prop} (h : RpIn W (toR d P) bk PA G) (ht : Tied d n P) (hd : Deal4 d n) (hp : P.ok) :
    Calls Tryd.prog 55 #[.agg PA] W fun e W' => e = .returned (.int .u64 (P.st.legal : Int)) ∧ Below W.heap.size W W' := by
  obtain ⟨a, cap, a2, cap2, rfl, hz, hcap, -⟩ := h
  rw [← ht.legal hd]
  exact rq_Legal (toR d P) (ht.ok hd hp) a cap _ W hz hcap
theorem rl_do {W : World} {bk : List Nat} {PA : Array Value} {G : Nat → Prop} (h : RpIn W (toR d P) bk PA G) (ht : Tied d n P) (hd : Deal4 d n) (hp : P.ok) {c : Nat} (hc : P.st.legal.testBit c = true) (hc2 : c < 256) :
    Calls Tryd.prog 56 #[.agg PA, .int .u8 (c : Int)] W fun e W' => ∃ PA', e = .returned (.tuple #[.agg PA', .int .i64 0]) ∧ RpIn W' (toR d (P.nx c)) [] PA' (More G W W') ∧ Below W.heap.size W W' := by
  refine (rq_Do (toR d P) (ht.ok hd hp) bk PA G W h c hc2).mono ?_
  have e1 := toR_do (p := P.wb bk) (ht.back bk) hd c
  rw [wb_do ht hd hc bk] at e1
  have e2 : (toR d P).doV bk c = (0, toR d (P.nx c), []) := e1
  rw [e2]
  rintro e W' ⟨PA', rfl, hr, hb⟩
  exact ⟨PA', rfl, hr, hb⟩
set_option maxHeartbeats 8000000 in
set_option maxRecDepth 10000 in
theorem law12_lines (hd : Deal4 d n) : ∀ (m : Nat) (P : Ply), Tied d n P → P.ok → P.steps.length + m = 4 * n → ∀ (b : List Nat) (W : World) (B : Nat) (G : Nat → Prop) (PA : Array Value) (bk : List Nat), b.length ≤ m → InP W B (P.wb b) G → RpIn W (toR d P) bk PA G →
    Calls Tryd.prog 37 #[.pointer (some ⟨B, 0, none⟩), .agg PA] W fun e W' => e = .returned (.bool true) ∧ ∃ b', b'.length ≤ m ∧ InP W' B (P.wb b') G ∧ Kept G W W' := by
  intro m
  induction m using Nat.strongRecOn with
  | _ m IH =>
  intro P ht hp hm b0 w B G PA bk hb0 hin hr
  have HD := Lib.hid hd
  have HT := Lib.hid ht
  have HP := Lib.hid hp
  have HM := Lib.hid hm
  have HI := Lib.hid IH
  have HR0 := Lib.hid hr
  have HZ := Lib.hid hr.size
  have HTG := Lib.hid hin.tg
  have HGL := Lib.hid hin.lt
  -- the box
  have hba := (Below.refl w.heap.size w).alloc (Nat.le_refl _) (.cells PA 71)
  have HB1 := Lib.hid hba
  have HRW := Lib.hid (Row.new w 71 PA)
  have HIN1 : Hid (InP (w.alloc (.cells PA 71)) B (P.wb b0) (fun g => G g ∨ g = w.heap.size)) := Lib.hid (hin.more hba (fun g hg => by
    rcases hg with hg | hg
    · exact .inl hg
    · exact .inr ⟨by omega, by rw [hg]; simp⟩) (.inl hin.tg))
  have HR1 := Lib.hid (hr.below hba)
  have HB0 := Lib.hid hb0
  clear hin hr hba hd ht hp hm IH hb0
  go_enter Tryd.func37, Tryd.ntmps37
  go_upto_region 1 with fail
  show Code.wp _ _ _ _ (w.alloc (.cells PA 71))
  generalize w.alloc (.cells PA 71) = w1 at *
  obtain ⟨bx, hbx⟩ : ∃ z, w.heap.size = z := ⟨_, rfl⟩
  have HBX := Lib.hid hbx
  rw [hbx] at HRW HIN1 ⊢
  clear hbx
  have HAG := Lib.hid (law12_agrees HD.out (HT.out.back b0) HIN1.out HR1.out)
  go_wp2_with (refine wpList_load_row rfl 71 (.tmp 3) rfl bx rfl 71 PA (0, 0) _ HRW.out Tryd.underlying71 rfl (by rw [HZ.out.1]; exact size_rp) ?_)
  refine HAG.out.mono ?_
  rintro e w2 ⟨rfl, hb2⟩
  have HIN2 := Lib.hid (HIN1.out.below hb2)
  have HR2 := Lib.hid ((HR1.out.below hb2).mono (G' := fun g => G g ∨ g = bx) fun g hg => .inl hg)
  have HRW2 := Lib.hid (HRW.out.later hb2)
  have HB2 := Lib.hid (HB1.out.trans (hb2.mono HB1.out.size))
  clear hb2 HAG HIN1 HR1 HRW HB1
  go_upto_region 4 with fail
  go_loopg [5] 52 (fun g cv wr => ∃ (c : Nat) (b : List Nat), g = 52 - c ∧ c ≤ 52 ∧ cv = .int .u8 (c : Int) ∧ b.length ≤ m ∧ InP wr B (P.wb b) (fun g => G g ∨ g = bx) ∧ Kept (fun g => G g ∨ g = bx) w2 wr)
  case atStart => exact ⟨0, b0, rfl, by omega, rfl, HB0.out, HIN2.out, Kept.refl _ _⟩
  case round =>
    clear HIN2 HB0
    obtain ⟨c, b, rfl, hc, rfl, hbl, hin, hk⟩ := hrel
    have HBL := Lib.hid hbl
    have HIN := Lib.hid hin
    have HK := Lib.hid hk
    have HRP := Lib.hid (HR2.out.kept hk)
    have HRX := Lib.hid (HRW2.out.kept (.inr rfl) hk)
    clear hbl hin hk
    by_cases hlt : c < 52
    · have hdc : decide (c < 52) = true := by simp; omega
      have HLE := Lib.hid (rl_legal HRP.out HT.out HD.out HP.out)
      have HLW := Lib.hid (legal_w64 HP.out.st)
      obtain ⟨L, hL⟩ : ∃ L, P.st.legal = L := ⟨_, rfl⟩
      have HLL := Lib.hid hL
      rw [hL] at HLE HLW
      have hLw := HLW.out
      clear hL
      go_wp2_with (refine wpList_load_row rfl 71 (.tmp 3) rfl bx rfl 71 PA (0, 0) _ HRX.out Tryd.underlying71 rfl (by rw [HZ.out.1]; exact size_rp) ?_)
      refine HLE.out.mono ?_
      rintro e w5 ⟨rfl, hb5⟩
      have HIN5 := Lib.hid (HIN.out.below hb5)
      have HK5 := Lib.hid (HK.out.trans (Kept.of_below hb5))
      have HRP5 := Lib.hid (HRP.out.below hb5)
      have HRX5 := Lib.hid (HRX.out.later hb5)
      clear hb5 HLE HIN HK HRP HRX
      have hb1 := bitAt_zero L c
      cases hbt : L.testBit c
      · rw [hbt] at hb1
        go_wp2_with fail
        go_roundg (52 - (c + 1))
        case measure => omega
        case rel => exact ⟨c + 1, b, rfl, by omega, by go_num, HBL.out, HIN5.out, HK5.out⟩
      · rw [hbt] at hb1
        have HC : Hid (P.st.legal.testBit c = true) := Lib.hid (by rw [HLL.out]; exact hbt)
        have HMP : Hid (m ≠ 0) := Lib.hid (wb_left HT.out HD.out HC.out HM.out)
        have HDO := Lib.hid (rl_do HRP5.out HT.out HD.out HP.out HC.out (by omega))
        go_upto_region 7 with fail
        clear hbt hb1 hLw
        go_wp2_with (refine wpList_load_row rfl 71 (.tmp 3) rfl bx rfl 71 PA (0, 0) _ HRX5.out Tryd.underlying71 rfl (by rw [HZ.out.1]; exact size_rp) ?_)
        refine HDO.out.mono ?_
        rintro e w6 ⟨PA', rfl, hr6, hb6⟩
        have HZ6 := Lib.hid hr6.size
        have HR6 := Lib.hid hr6
        have HB6 := Lib.hid hb6
        have HQ := Lib.hid (Row.new w6 71 zeroRp)
        clear hr6 hb6 HDO HRX5
        go_upto_region 8 with (refine wpList_store_row rfl 71 (.tmp 6) (.tmp 27) rfl w6.heap.size PA' rfl rfl 71 _ HQ.out (by rw [HZ6.out.1]; exact size_rp) (by rw [HZ6.out.1]; rfl) HZ6.out.2 ?_)
        have hb7 := below_setRow ((Below.refl w6.heap.size w6).alloc (Nat.le_refl _) (.cells zeroRp 71)) (Nat.le_refl _) PA'
        have HR7 := Lib.hid (HR6.out.below hb7)
        have HX7 := Lib.hid (show Row ((w6.alloc (.cells zeroRp 71)).setRow w6.heap.size PA') w6.heap.size 71 PA' from setRow_heap _ _ _ _ _ _ HQ.out)
        have HB57 := Lib.hid (HB6.out.trans (hb7.mono HB6.out.size))
        have HS7 : Hid (w6.heap.size < ((w6.alloc (.cells zeroRp 71)).setRow w6.heap.size PA').heap.size) := Lib.hid (by rw [size_setRow]; simp)
        change Code.wp _ _ _ _ ((w6.alloc (.cells zeroRp 71)).setRow w6.heap.size PA')
        generalize (w6.alloc (.cells zeroRp 71)).setRow w6.heap.size PA' = w7 at *
        -- what is left alone from here on
        have HIN7 : Hid (InP w7 B (P.wb b) (More (fun g => G g ∨ g = bx) w5 w7)) := Lib.hid (HIN5.out.more HB57.out (fun g hg => hg) (.inl (.inl HTG.out)))
        have HK7 := Lib.hid (HK5.out.trans (Kept.of_below HB57.out))
        have HR7' : Hid (RpIn w7 (toR d (P.nx c)) [] PA' (More (fun g => G g ∨ g = bx) w5 w7)) := Lib.hid (HR7.out.mono fun g hg => by
          rcases hg with hg | hg
          · exact .inl hg
          · exact .inr ⟨hg.1, by have := HS7.out; omega⟩)
        have HX7' : Hid (More (fun g => G g ∨ g = bx) w5 w7 w6.heap.size) := Lib.hid (.inr ⟨HB6.out.size, HS7.out⟩)
        obtain ⟨G3, hG3⟩ : ∃ G3, More (fun g => G g ∨ g = bx) w5 w7 = G3 := ⟨_, rfl⟩
        have HG3 : Hid (∀ g, (G g ∨ g = bx) → G3 g) := Lib.hid (by rw [← hG3]; exact fun g hg => .inl hg)
        rw [hG3] at HIN7 HR7' HX7'
        obtain ⟨b6, hb6⟩ : ∃ z, w6.heap.size = z := ⟨_, rfl⟩
        rw [hb6] at HX7 HX7' ⊢
        clear hb6 hb7 hG3 HQ HR6 HR7 HB6 HB57 HS7 HIN5 HK5 HRP5
        have HDP := Lib.hid (in_do HIN7.out c (by omega) (doV_ok HIN7.out.ok c (by have := HT.out.len52 HD.out HP.out; show P.steps.length < 60000; omega)))
        rw [wb_do HT.out HD.out HC.out] at HDP
        go_wp2_with fail
        refine HDP.out.mono ?_
        rintro e w8 ⟨rfl, hin8, hk8⟩
        have HIN8 := Lib.hid hin8
        have HK8 := Lib.hid (HK7.out.trans (hk8.mono HG3.out))
        have HR8 := Lib.hid (HR7'.out.kept hk8)
        have HX8 := Lib.hid (HX7.out.kept HX7'.out hk8)
        clear hin8 hk8 HIN7 HK7 HR7' HX7 HDP
        have HLI := Lib.hid (HI.out (m - 1) (by have := HMP.out; omega) (P.nx c) (HT.out.put HD.out HP.out HC.out) (nx_ok HP.out HD.out HT.out HC.out) (by rw [nx_len]; have := HMP.out; have := HM.out; omega) [] w8 B G3 PA' [] (by simp) HIN8.out HR8.out)
        go_wp2_with (refine load_row_g (by rfl) 71 (.tmp 6) rfl b6 rfl 71 PA' (0, 0) _ HX8.out Tryd.underlying71 rfl (by rw [HZ6.out.1]; exact size_rp) ?_)
        refine HLI.out.mono ?_
        rintro e w9 ⟨rfl, b1, hb1l, hin9, hk9⟩
        have HB1L := Lib.hid hb1l
        have HIN9 := Lib.hid hin9
        have HK9 := Lib.hid (HK8.out.trans (hk9.mono HG3.out))
        clear hb1l hin9 hk9 HIN8 HK8 HR8 HX8 HLI
        have HUN := Lib.hid (in_undo HIN9.out (undoV_ok HIN9.out.ok))
        rw [wb_undo] at HUN
        go_wp2_with fail
        refine HUN.out.mono ?_
        rintro e w10 ⟨rfl, hin10, hk10⟩
        have HIN10 := Lib.hid hin10
        have HK10 := Lib.hid (HK9.out.trans (hk10.mono HG3.out))
        clear hin10 hk10 HIN9 HK9 HUN
        go_wp2_with fail
        go_roundg (52 - (c + 1))
        case measure => omega
        case rel => exact ⟨c + 1, b1 ++ [c], rfl, by omega, by go_num, by rw [List.length_append, List.length_singleton]; have := HB1L.out; have := HMP.out; omega, HIN10.out.less HG3.out (.inl HTG.out), HK10.out⟩
    · have hdc : decide (c < 52) = false := by simp; omega
      obtain ⟨a, cap, a2, cap2, hPA, hz, hcap, hga, -, -, -⟩ := HRP.out
      have c0 : wr.cell? ⟨bx, 0, none⟩ = some (.int .u64 (d 0 : Int)) := (HRX.out.cell 0).trans (by rw [hPA]; rfl)
      have c1 : wr.cell? ⟨bx, 1, none⟩ = some (.int .u64 (d 1 : Int)) := (HRX.out.cell 1).trans (by rw [hPA]; rfl)
      have c2 : wr.cell? ⟨bx, 2, none⟩ = some (.int .u64 (d 2 : Int)) := (HRX.out.cell 2).trans (by rw [hPA]; rfl)
      have c3 : wr.cell? ⟨bx, 3, none⟩ = some (.int .u64 (d 3 : Int)) := (HRX.out.cell 3).trans (by rw [hPA]; rfl)
      have c4 : wr.cell? ⟨bx, 4, none⟩ = some (.int .u8 (P.lv : Int)) := (HRX.out.cell 4).trans (by rw [hPA]; rfl)
      have c5 : wr.cell? ⟨bx, 5, none⟩ = some (.int .u8 (P.dn : Int)) := (HRX.out.cell 5).trans (by rw [hPA]; rfl)
      have c6 : wr.cell? ⟨bx, 6, none⟩ = some (.int .u8 (P.rk : Int)) := (HRX.out.cell 6).trans (by rw [hPA]; rfl)
      have c7 : wr.cell? ⟨bx, 7, none⟩ = some (.int .u8 (P.dc : Int)) := (HRX.out.cell 7).trans (by rw [hPA]; rfl)
      have c8 : wr.cell? ⟨bx, 8, none⟩ = some (.slice a (toR d P).cs.length cap) := (HRX.out.cell 8).trans (by rw [hPA]; rfl)
      have HR9 : Hid (RpIn wr (toR d P) [] ((toR d P).cells (.slice a (toR d P).cs.length cap) (.slice none 0 0)) (fun g => G g ∨ g = bx)) := Lib.hid ⟨a, cap, none, 0, rfl, hz, hcap, hga, byt_nilR _, Nat.le_refl _, fun ad e => by cases e⟩
      have HAG := Lib.hid (law12_agrees HD.out (HT.out.back b) HIN.out HR9.out)
      obtain ⟨nl, hnl⟩ : ∃ z, (toR d P).cs.length = z := ⟨_, rfl⟩
      rw [hnl] at c8 HAG
      clear hPA hz hcap hga hnl HR9
      go_wp2_with fail
      refine HAG.out.mono ?_
      rintro e w5 ⟨rfl, hb5⟩
      have HIN5 := Lib.hid (HIN.out.below hb5)
      have HK5 := Lib.hid (HK.out.trans (Kept.of_below hb5))
      clear hb5 HAG c0 c1 c2 c3 c4 c5 c6 c7 c8
      go_wp2_with fail
      go_ret
      refine ⟨rfl, b, HBL.out, HIN5.out.less (fun g hg => .inl hg) HTG.out, ?_⟩
      have h2 : Kept G w w2 := ⟨HB2.out.os, HB2.out.tape, HB2.out.output, HB2.out.size, fun k hk hl => HB2.out.block k hl⟩
      exact h2.trans (HK5.out.mono fun g hg => .inl hg)
end Go.Proofs.YtginbellakkliaaDoor
