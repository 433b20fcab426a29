/- finesselaw12.PlayTurned walked over this seat's program. -/
import Derived.Test.YtginbellakkliaaDoorPyW
import Derived.Test.YtginbellakkliaaDoorPyO
import Derived.Deep.Cut
namespace Go.Proofs.YtginbellakkliaaDoor
open Go.RowKit Go.Shelf Go.Sort
attribute [local go_sem] Oper.semAt_some

theorem below_of_kept {w W : World} (h : Kept (fun k => k < w.heap.size) w W) : Below w.heap.size w W := ⟨h.os, h.tape, h.output, h.size, fun k hk => h.block k hk hk⟩
theorem In2.turn1 {W : World} {B1 B2 : Nat} {p q : Ply} {G : Nat → Prop} (h : In2 W B1 p B2 q G) (ho : p.st.over = false) {s : Nat} (hs : p.st.next = s) :
    Calls Tryd.prog 15 #[.pointer (some ⟨B1, 0, none⟩)] W fun e W' => e = .returned (.tuple #[.int .u8 (s : Int), .int .i64 0]) ∧ In2 W' B1 p B2 q G ∧ Kept G W W' := by
  obtain ⟨G1, h1⟩ := h.fst
  have := in_turn h1
  have e : p.turnV = (s, 0) := by unfold Ply.turnV; rw [ho, hs]; rfl
  rw [e] at this
  exact this.mono fun e W' ⟨he, hb⟩ => ⟨he, h.below hb, Kept.of_below hb⟩
theorem In2.turn2 {W : World} {B1 B2 : Nat} {p q : Ply} {G : Nat → Prop} (h : In2 W B1 p B2 q G) (ho : q.st.over = false) {s : Nat} (hs : q.st.next = s) :
    Calls Tryd.prog 15 #[.pointer (some ⟨B2, 0, none⟩)] W fun e W' => e = .returned (.tuple #[.int .u8 (s : Int), .int .i64 0]) ∧ In2 W' B1 p B2 q G ∧ Kept G W W' :=
  (h.swap.turn1 ho hs).mono fun _ _ ⟨he, h1, h2⟩ => ⟨he, h1.swap, h2⟩
theorem In2.legal1 {W : World} {B1 B2 : Nat} {p q : Ply} {G : Nat → Prop} (h : In2 W B1 p B2 q G) {L : Nat} (hL : p.st.legal = L) :
    Calls Tryd.prog 14 #[.pointer (some ⟨B1, 0, none⟩)] W fun e W' => e = .returned (.int .u64 (L : Int)) ∧ In2 W' B1 p B2 q G ∧ Kept G W W' := by
  obtain ⟨G1, h1⟩ := h.fst
  have := in_legal h1
  rw [hL] at this
  exact this.mono fun e W' ⟨he, hb⟩ => ⟨he, h.below hb, Kept.of_below hb⟩
theorem In2.legal2 {W : World} {B1 B2 : Nat} {p q : Ply} {G : Nat → Prop} (h : In2 W B1 p B2 q G) {L : Nat} (hL : q.st.legal = L) :
    Calls Tryd.prog 14 #[.pointer (some ⟨B2, 0, none⟩)] W fun e W' => e = .returned (.int .u64 (L : Int)) ∧ In2 W' B1 p B2 q G ∧ Kept G W W' :=
  (h.swap.legal1 hL).mono fun _ _ ⟨he, h1, h2⟩ => ⟨he, h1.swap, h2⟩
theorem In2.do1 {W : World} {B1 B2 : Nat} {p q p' : Ply} {G : Nat → Prop} (h : In2 W B1 p B2 q G) {c : Nat} (hc : c < 256) (e : p.doV c = (0, p')) (hq : p'.ok) :
    Calls Tryd.prog 18 #[.pointer (some ⟨B1, 0, none⟩), .int .u8 (c : Int)] W fun e W' => e = .returned (.int .i64 0) ∧ In2 W' B1 p' B2 q G ∧ Kept G W W' := by
  have := h.do c hc (by rw [e]; exact hq)
  rw [e] at this; exact this
theorem In2.do2 {W : World} {B1 B2 : Nat} {p q p' : Ply} {G : Nat → Prop} (h : In2 W B1 p B2 q G) {c : Nat} (hc : c < 256) (e : q.doV c = (0, p')) (hq : p'.ok) :
    Calls Tryd.prog 18 #[.pointer (some ⟨B2, 0, none⟩), .int .u8 (c : Int)] W fun e W' => e = .returned (.int .i64 0) ∧ In2 W' B1 p B2 p' G ∧ Kept G W W' :=
  (h.swap.do1 hc e hq).mono fun _ _ ⟨he, h1, h2⟩ => ⟨he, h1.swap, h2⟩
theorem In2.res1 {W : World} {B1 B2 : Nat} {p q : Ply} {G : Nat → Prop} (h : In2 W B1 p B2 q G) (ho : p.st.over = true) {R : Nat} (hR : tkWon p.tks (p.dc % 2) = R) :
    Calls Tryd.prog 19 #[.pointer (some ⟨B1, 0, none⟩)] W fun e W' => e = .returned (.tuple #[.int .i64 (R : Int), .int .i64 0]) ∧ In2 W' B1 p B2 q G ∧ Kept G W W' := by
  obtain ⟨G1, h1⟩ := h.fst
  have := in_result h1
  have e : p.resV = (R, 0) := by unfold Ply.resV; rw [ho, ← hR]; rfl
  rw [e] at this
  exact this.mono fun e W' ⟨he, hb⟩ => ⟨he, h.below hb, Kept.of_below hb⟩
theorem In2.res2 {W : World} {B1 B2 : Nat} {p q : Ply} {G : Nat → Prop} (h : In2 W B1 p B2 q G) (ho : q.st.over = true) {R : Nat} (hR : tkWon q.tks (q.dc % 2) = R) :
    Calls Tryd.prog 19 #[.pointer (some ⟨B2, 0, none⟩)] W fun e W' => e = .returned (.tuple #[.int .i64 (R : Int), .int .i64 0]) ∧ In2 W' B1 p B2 q G ∧ Kept G W W' :=
  (h.swap.res1 ho hR).mono fun _ _ ⟨he, h1, h2⟩ => ⟨he, h1.swap, h2⟩
theorem pt_len {d : Nat → Nat} {n t : Nat} {p : Ply} (h : PInv d n p t) (hd : Deal4 d n) : p.steps.length ≤ 52 ∧ (p.st.over = false → p.steps.length < 52) := by
  have h1 := h.many
  have h2 := h.t_le
  have h3 := hd.le
  have h4 := h.ok.st.ct
  have h5 := h.ct_over
  refine ⟨by omega, fun ho => ?_⟩
  have h6 : t ≠ n := fun e => by rw [h.over_iff.2 e] at ho; cases ho
  omega
theorem pt_won {d : Nat → Nat} {n t : Nat} {p : Ply} (h : PInv d n p t) (s : Nat) : tkWon p.tks s ≤ 60000 := by
  have h1 : tkWon p.tks s ≤ p.tks.length := List.length_filter_le _ _
  have h2 : ∀ k, (p.tkTo k).length ≤ k := by
    intro k
    induction k with
    | zero => exact Nat.le_refl _
    | succ k ih =>
      unfold Ply.tkTo
      rw [List.length_append]
      cases p.steps[4 * k + 3]? with
      | none => simp; omega
      | some y => simp; omega
  have h3 := h2 (p.steps.length / 4)
  have h4 := h.ok.many
  unfold Ply.tks at h1 ⊢
  omega
theorem pt_do {d f : Nat → Nat} {n t b : Nat} {p q : Ply} (hp : PInv d n p t) (hq : PInv f n q t) (h : Trn b p q) (hd : Deal4 d n) (hf : Deal4 f n) (hb : b < 4) :
    ∀ c, p.st.legal.testBit c = true → ∃ p' q' t', p.doV c = (0, p') ∧ q.doV c = (0, q') ∧ p'.ok ∧ q'.ok ∧ PInv d n p' t' ∧ PInv f n q' t' ∧ Trn b p' q' ∧ p'.steps.length = p.steps.length + 1 := by
  intro c hc
  have hc2 : q.st.legal.testBit c = true := by rw [h.legal hb]; exact hc
  obtain ⟨h1, h2⟩ := hp.do hd hc
  obtain ⟨h3, h4⟩ := hq.do hf hc2
  rw [h.ct] at h4
  exact ⟨_, _, _, h1, h3, h2.ok, h4.ok, h2, h4, h.put hb hd hp hq.ok hq.many hc, List.length_append⟩
attribute [local irreducible] Mn.d Mn.lv Mn.dn Mn.rk Mn.dc
set_option maxHeartbeats 2000000 in
set_option maxRecDepth 100000 in
theorem pt_all (x : Mn) (a : Option Addr) (len cap by0 : Nat) (a2 : Option Addr) (len2 cap2 : Nat) (zs2 : List Nat) (w : World) (hz : Byt w a len x.zs) (hz2 : Byt w a2 len2 zs2) (hn : x.n < 256) (hc : x.c < 256) (hby : by0 < 256) (hT : Tab w) :
    Calls Tryd.prog 3 #[.slice a len cap, .int .u8 (x.n : Int), .int .u8 (x.c : Int), .slice a2 len2 cap2, .int .u8 (by0 : Int)] w fun e w' => e = .returned (.bool true) ∧ Below w.heap.size w w' := by
  have HA := Lib.hid (fun (w1 : World) (h : Below w.heap.size w w1) => law12_awake w1 (hT.below hT.pos h))
  have HM := Lib.hid (fun (w1 : World) (h : Below w.heap.size w w1) => law12_made x a len cap w1 (hz.below (Nat.le_refl _) h) hn hc)
  have HD := Lib.hid (made_deal4 x)
  have hct : x.lv ≤ 7 ∧ 1 ≤ x.lv ∧ x.dn ≤ 4 ∧ x.rk ≤ 2 ∧ x.dc ≤ 3 := by unfold Mn.lv Mn.dn Mn.rk Mn.dc; omega
  have HCT := Lib.hid hct
  have hdc3 : x.dc ≤ 3 := hct.2.2.2.2
  obtain ⟨b, hb⟩ : ∃ b, b = by0 % 4 := ⟨_, rfl⟩
  have hb4 : b < 4 := by omega
  have hbi : (by0 : Int) % 4 = (b : Int) := by omega
  clear hb hct
  go_enter Tryd.func3, Tryd.ntmps3
  go_upto_region 5 with (first
    | (go_at_call 11; refine (HA.out _ (Below.refl _ _)).mono ?_; rintro e w1 ⟨rfl, hb1⟩)
    | (go_at_call 12; refine (HM.out _ hb1).mono ?_; rintro e w2 ⟨rfl, hb2⟩))
  rw [hbi]
  clear HA HM hbi
  obtain ⟨hR0, hR1⟩ := newW_rows x.d x.lv x.dn x.rk x.dc w2
  have hB3 := (hb1.trans (hb2.mono hb1.size)).trans ((newW_below x.d x.lv x.dn x.rk x.dc w2).mono (Nat.le_trans hb1.size hb2.size))
  have hN : w.heap.size ≤ w2.heap.size := Nat.le_trans hb1.size hb2.size
  have hs3 : (newW x.d x.lv x.dn x.rk x.dc w2).heap.size = w2.heap.size + 2 := by simp
  dsimp only [newW] at hR0 hR1 hB3 hs3
  generalize (w2.alloc (.cells #[.int .u64 (x.d 0 : Int), .int .u64 (x.d 1 : Int), .int .u64 (x.d 2 : Int), .int .u64 (x.d 3 : Int)] 26)).alloc (.cells #[.int .u8 (x.lv : Int), .int .u8 (x.dn : Int), .int .u8 (x.rk : Int), .int .u8 (x.dc : Int)] 28) = w3 at *
  generalize w2.heap.size = N at *
  clear hb1 hb2
  have q0 := hR0.cell 0
  have q1 := hR0.cell 1
  have q2 := hR0.cell 2
  have q3 := hR0.cell 3
  simp only [List.getElem?_toArray, List.getElem?_cons_zero, List.getElem?_cons_succ] at q0 q1 q2 q3
  have p0 := hR1.cell 0
  have p1 := hR1.cell 1
  have p2 := hR1.cell 2
  have p3 := hR1.cell 3
  simp only [List.getElem?_toArray, List.getElem?_cons_zero, List.getElem?_cons_succ] at p0 p1 p2 p3
  go_region
  · have hRC : Row ((w3.alloc (.cells #[.int .u64 (x.d 0 : Int), .int .u64 (x.d 1 : Int), .int .u64 (x.d 2 : Int), .int .u64 (x.d 3 : Int)] 26)).alloc (.cells #[.int .u8 (x.lv : Int), .int .u8 (x.dn : Int), .int .u8 (x.rk : Int), .int .u8 (x.dc : Int)] 28)).drew (N + 2 + 1) 28 #[.int .u8 (x.lv : Int), .int .u8 (x.dn : Int), .int .u8 (x.rk : Int), .int .u8 (x.dc : Int)] := by
      have := Row.new (w3.alloc (.cells #[.int .u64 (x.d 0 : Int), .int .u64 (x.d 1 : Int), .int .u64 (x.d 2 : Int), .int .u64 (x.d 3 : Int)] 26)) 28 #[.int .u8 (x.lv : Int), .int .u8 (x.dn : Int), .int .u8 (x.rk : Int), .int .u8 (x.dc : Int)]
      rw [World.size_alloc, hs3] at this; exact this
    have hRT : Row ((w3.alloc (.cells #[.int .u64 (x.d 0 : Int), .int .u64 (x.d 1 : Int), .int .u64 (x.d 2 : Int), .int .u64 (x.d 3 : Int)] 26)).alloc (.cells #[.int .u8 (x.lv : Int), .int .u8 (x.dn : Int), .int .u8 (x.rk : Int), .int .u8 (x.dc : Int)] 28)).drew (N + 2) 26 (arr4 x.d) := by
      have := (Row.new w3 26 (arr4 x.d)).alloc (.cells #[.int .u8 (x.lv : Int), .int .u8 (x.dn : Int), .int .u8 (x.rk : Int), .int .u8 (x.dc : Int)] 28)
      rw [hs3] at this; exact this
    have hB4 := ((hB3.alloc hB3.size (.cells #[.int .u64 (x.d 0 : Int), .int .u64 (x.d 1 : Int), .int .u64 (x.d 2 : Int), .int .u64 (x.d 3 : Int)] 26)).alloc (by rw [World.size_alloc]; have := hB3.size; omega) (.cells #[.int .u8 (x.lv : Int), .int .u8 (x.dn : Int), .int .u8 (x.rk : Int), .int .u8 (x.dc : Int)] 28)).drew
    replace hR0 : Row ((w3.alloc (.cells #[.int .u64 (x.d 0 : Int), .int .u64 (x.d 1 : Int), .int .u64 (x.d 2 : Int), .int .u64 (x.d 3 : Int)] 26)).alloc (.cells #[.int .u8 (x.lv : Int), .int .u8 (x.dn : Int), .int .u8 (x.rk : Int), .int .u8 (x.dc : Int)] 28)).drew N 26 (arr4 x.d) := (hR0.alloc _).alloc _
    replace hR1 : Row ((w3.alloc (.cells #[.int .u64 (x.d 0 : Int), .int .u64 (x.d 1 : Int), .int .u64 (x.d 2 : Int), .int .u64 (x.d 3 : Int)] 26)).alloc (.cells #[.int .u8 (x.lv : Int), .int .u8 (x.dn : Int), .int .u8 (x.rk : Int), .int .u8 (x.dc : Int)] 28)).drew (N + 1) 28 #[.int .u8 (x.lv : Int), .int .u8 (x.dn : Int), .int .u8 (x.rk : Int), .int .u8 (x.dc : Int)] := (hR1.alloc _).alloc _
    generalize ((w3.alloc (.cells #[.int .u64 (x.d 0 : Int), .int .u64 (x.d 1 : Int), .int .u64 (x.d 2 : Int), .int .u64 (x.d 3 : Int)] 26)).alloc (.cells #[.int .u8 (x.lv : Int), .int .u8 (x.dn : Int), .int .u8 (x.rk : Int), .int .u8 (x.dc : Int)] 28)).drew = w4 at *
    have hT0 : N ≠ N + 2 := by omega
    have hT1 : N + 1 ≠ N + 2 := by omega
    have hTC : N + 2 + 1 ≠ N + 2 := by omega
    have hC0 : N ≠ N + 2 + 1 := by omega
    have hC1 : N + 1 ≠ N + 2 + 1 := by omega
    have hTw : w.heap.size ≤ N + 2 := by omega
    have hCw : w.heap.size ≤ N + 2 + 1 := by omega
    clear hB3 hs3 q0 q1 q2 q3 p0 p1 p2 p3
    generalize N + 2 + 1 = C at *
    generalize N + 2 = T at *
    go_wp2_with fail
    go_loopw [41] (fun i wr => ∃ (k : Nat) (f : Nat → Nat), k ≤ 4 ∧ i = .int .i64 (k : Int) ∧ Row wr T 26 (arr4 f) ∧ (∀ j, j < k → f ((j + b) % 4) = x.d j) ∧ (∀ j, 4 ≤ j → f j = 0) ∧ Kept (fun c => c ≠ T) w4 wr) (fun i _ => 4 - (intOf i).toNat)
    case atStart => exact ⟨0, x.d, by omega, rfl, hRT, fun j hj => absurd hj (Nat.not_lt_zero _), HD.out.far, Kept.refl _ _⟩
    case round =>
      obtain ⟨k, f, hk, rfl, hrt, hf, hfar, hkp⟩ := hrel
      have HF := Lib.hid hf
      have HFAR := Lib.hid hfar
      clear hf hfar
      have hr0 := hR0.kept (S := fun c => c ≠ T) hT0 hkp
      by_cases hk4 : k < 4
      · have hkk : ((k : Int) + (b : Int)) % 4 = (((k + b) % 4 : Nat) : Int) := by omega
        have hkb : (k + b) % 4 < 4 := Nat.mod_lt _ (by decide)
        have hm := (hr0.cell k).trans (arr4_get x.d _ hk4)
        have hm2 := (hrt.cell ((k + b) % 4)).trans (arr4_get f _ hkb)
        have hfz := hrt.frozen ((k + b) % 4)
        have HKB := Lib.hid (rfl : (k + b) % 4 = (k + b) % 4)
        obtain ⟨j, hj⟩ : ∃ j, j = (k + b) % 4 := ⟨_, rfl⟩
        rw [← hj] at hkk hkb hm2 hfz
        have HJ := Lib.hid hj
        clear hj HKB
        go_wp2_with fail
        go_roundw
        case rel =>
          refine ⟨k + 1, setH f j (x.d k), by omega, by go_num, ?_, fun i hi => ?_, fun i hi => ?_, hkp.setCell (by simp) _⟩
          · have := hrt.set j (.int .u64 (x.d k : Int))
            rw [arr4_set _ _ _ hkb] at this; exact this
          · unfold setH
            by_cases hik : i = k
            · rw [hik, ← HJ.out, if_pos rfl]
            · rw [if_neg (by have := HJ.out; omega)]; exact HF.out i (by omega)
          · unfold setH; rw [if_neg (by omega)]; exact HFAR.out i hi
        case measure => simp [intOf]; omega
      · have hke : k = 4 := by omega
        subst hke
        have hd2 : decide ((4 : Int) < 4) = false := rfl
        have HTD := Lib.hid (turned_deal HD.out hb4 (fun j hj => HF.out j hj) HFAR.out)
        have HTR := Lib.hid (Trn.new (lv := x.lv) (dn := x.dn) (rk := x.rk) (dc := x.dc) (fun j hj => HF.out j hj) : Trn b (newP x.d x.lv x.dn x.rk x.dc) (newP f x.lv x.dn x.rk ((x.dc + b) % 4)))
        have hr1 := hR1.kept (S := fun c => c ≠ T) hT1 hkp
        have hrc := hRC.kept (S := fun c => c ≠ T) hTC hkp
        have hB5 : Below w.heap.size w wr := hB4.trans ⟨hkp.os, hkp.tape, hkp.output, hkp.size, fun c hc => hkp.block c (by show c ≠ T; omega) (by have := hB4.size; omega)⟩
        clear hR0 hR1 hRT hRC HF HFAR hkp hB4
        have hdd : ((x.dc : Int) + (b : Int)) % 4 = (((x.dc + b) % 4 : Nat) : Int) := by omega
        have hd2c3 : (x.dc + b) % 4 ≤ 3 := by omega
        have HNP : Hid (∀ (W : World), Below w.heap.size w W → Calls Tryd.prog 13 #[.agg #[.int .u64 (x.d 0 : Int), .int .u64 (x.d 1 : Int), .int .u64 (x.d 2 : Int), .int .u64 (x.d 3 : Int)], .agg #[.int .u8 (x.lv : Int), .int .u8 (x.dn : Int), .int .u8 (x.rk : Int), .int .u8 (x.dc : Int)]] W fun e W' =>
          ∃ B, e = .returned (.tuple #[.pointer (some ⟨B, 0, none⟩), .int .i64 0]) ∧ InP W' B (newP x.d x.lv x.dn x.rk x.dc) (fun g => g < w.heap.size) ∧ Below W.heap.size W W') :=
          Lib.hid fun W hb => in_new x.d x.lv x.dn x.rk x.dc (made_w64 x) (made_new x) _ W (fun g hg => Nat.lt_of_lt_of_le hg hb.size) (hT.below hT.pos hb) hT.pos
        have HNQ : Hid (∀ (W : World), Below w.heap.size w W → Calls Tryd.prog 13 #[.agg #[.int .u64 (f 0 : Int), .int .u64 (f 1 : Int), .int .u64 (f 2 : Int), .int .u64 (f 3 : Int)], .agg #[.int .u8 (x.lv : Int), .int .u8 (x.dn : Int), .int .u8 (x.rk : Int), .int .u8 (((x.dc + b) % 4 : Nat) : Int)]] W fun e W' =>
          ∃ B, e = .returned (.tuple #[.pointer (some ⟨B, 0, none⟩), .int .i64 0]) ∧ InP W' B (newP f x.lv x.dn x.rk ((x.dc + b) % 4)) (fun g => g < W.heap.size) ∧ Below W.heap.size W W') :=
          Lib.hid fun W hb => in_new f x.lv x.dn x.rk ((x.dc + b) % 4) (fun j => Nat.lt_of_lt_of_le (HTD.out.lt j) (by decide)) (newE4 HTD.out HCT.out.2.1 HCT.out.1 HCT.out.2.2.1 HCT.out.2.2.2.1 hd2c3) _ W (fun g hg => hg) (hT.below hT.pos hb) (Nat.lt_of_lt_of_le hT.pos hb.size)
        have HP0 := Lib.hid (PInv.new x)
        have HQ0 := Lib.hid (PInv.new4 HTD.out (newE4 HTD.out HCT.out.2.1 HCT.out.1 HCT.out.2.2.1 HCT.out.2.2.2.1 hd2c3))
        have HP00 : Hid ((newP x.d x.lv x.dn x.rk x.dc).st.ct = 0) := Lib.hid rfl
        generalize (x.dc + b) % 4 = dc2 at *
        generalize newP x.d x.lv x.dn x.rk x.dc = p0 at *
        generalize newP f x.lv x.dn x.rk dc2 = q0 at *
        have hm3 := hr1.cell 3
        have hm4 := hrc.cell 3
        have hf4 := hrc.frozen 3
        simp only [List.getElem?_toArray, List.getElem?_cons_zero, List.getElem?_cons_succ] at hm3 hm4
        have S0 : Row (wr.setCell ⟨C, 3, none⟩ (.int .u8 (dc2 : Int))) N 26 (arr4 x.d) := hr0.other hC0
        have S1 : Row (wr.setCell ⟨C, 3, none⟩ (.int .u8 (dc2 : Int))) (N + 1) 28 #[.int .u8 (x.lv : Int), .int .u8 (x.dn : Int), .int .u8 (x.rk : Int), .int .u8 (x.dc : Int)] := hr1.other hC1
        have ST : Row (wr.setCell ⟨C, 3, none⟩ (.int .u8 (dc2 : Int))) T 26 (arr4 f) := hrt.other (fun e => hTC e.symm)
        have SC : Row (wr.setCell ⟨C, 3, none⟩ (.int .u8 (dc2 : Int))) C 28 #[.int .u8 (x.lv : Int), .int .u8 (x.dn : Int), .int .u8 (x.rk : Int), .int .u8 (dc2 : Int)] := hrc.set 3 (.int .u8 (dc2 : Int))
        have hB6 : Below w.heap.size w (wr.setCell ⟨C, 3, none⟩ (.int .u8 (dc2 : Int))) := hB5.setCell (p := ⟨C, 3, none⟩) hCw _
        have HB6 := Lib.hid hB6
        have HST := Lib.hid ST
        have HSC := Lib.hid SC
        have q0 := S0.cell 0
        have q1 := S0.cell 1
        have q2 := S0.cell 2
        have q3 := S0.cell 3
        simp only [List.getElem?_toArray, List.getElem?_cons_zero, List.getElem?_cons_succ] at q0 q1 q2 q3
        have p0 := S1.cell 0
        have p1 := S1.cell 1
        have p2 := S1.cell 2
        have p3 := S1.cell 3
        simp only [List.getElem?_toArray, List.getElem?_cons_zero, List.getElem?_cons_succ] at p0 p1 p2 p3
        clear S0 S1 ST SC hr0 hr1 hrt hrc hB5 hB6
        go_upto_region 13 with (first
          | (go_at_call 13; refine (HNP.out _ HB6.out).mono ?_; rintro e W1 ⟨B1, rfl, H1, hb7⟩; have HB7 := Lib.hid (HB6.out.trans (hb7.mono HB6.out.size)); have UT := HST.out.below HST.out.lt hb7; have UC := HSC.out.below HSC.out.lt hb7; have u0 := UT.cell 0; have u1 := UT.cell 1; have u2 := UT.cell 2; have u3 := UT.cell 3; have v0 := UC.cell 0; have v1 := UC.cell 1; have v2 := UC.cell 2; have v3 := UC.cell 3; simp only [List.getElem?_toArray, List.getElem?_cons_zero, List.getElem?_cons_succ] at u0 u1 u2 u3 v0 v1 v2 v3; clear UT UC hb7))
        clear q0 q1 q2 q3 p0 p1 p2 p3
        go_upto_region 17 with (first
          | (go_at_call 13; refine (HNQ.out _ HB7.out).mono ?_; rintro e W2 ⟨B2, rfl, H2, hb8⟩))
        clear u0 u1 u2 u3 v0 v1 v2 v3
        have HK0 : Kept (fun g => g < w.heap.size) w W2 := Kept.of_below (HB7.out.trans (hb8.mono HB7.out.size))
        have H0 : In2 W2 B1 p0 B2 q0 (fun g => g < w.heap.size) := In2.new H1 H2 hb8
        clear H1 H2 hb8 HNP HNQ HST HSC HB6 HB7
        go_loopw [20] (fun i wr => ∃ p q t, i = .int .i64 (p.steps.length : Int) ∧ In2 wr B1 p B2 q (fun g => g < w.heap.size) ∧ PInv x.d x.each p t ∧ PInv f x.each q t ∧ Trn b p q ∧ Kept (fun g => g < w.heap.size) w wr) (fun i _ => 53 - (intOf i).toNat)
        case atStart => exact ⟨p0, q0, 0, by rw [HP0.out.many, HP00.out]; rfl, H0, HP0.out, HQ0.out, HTR.out, HK0⟩
        case round =>
          obtain ⟨p, q, t, rfl, H, hp, hq, htr, HK⟩ := hrel
          clear H0 HK0
          have hl := pt_len hp HD.out
          cases ho : p.st.over
          · obtain ⟨L, hL⟩ : ∃ L, p.st.legal = L := ⟨_, rfl⟩
            have hLq : q.st.legal = L := by rw [htr.legal hb4, hL]
            have hoq : q.st.over = false := by rw [htr.over hb4, ho]
            obtain ⟨s, hs⟩ : ∃ s, p.st.next = s := ⟨_, rfl⟩
            have hs4 : s < 4 := by rw [← hs]; exact next_lt _
            obtain ⟨s2, hs2⟩ : ∃ s2, (s + b) % 4 = s2 := ⟨_, rfl⟩
            have hsq : q.st.next = s2 := by rw [htr.next, hs, hs2]
            have hss : ((s : Int) + (b : Int)) % 4 = (s2 : Int) := by omega
            have hs24 : s2 < 4 := by omega
            have hL1 : L ≠ 0 := by rw [← hL]; exact hp.legal_ne HD.out ho
            have hL64 : W64 L := by rw [← hL]; exact hp.legal64 HD.out
            have hLb : ((L : Int) != 0) = true := by rw [bne_iff_ne]; omega
            have HDO := Lib.hid (pt_do hp hq htr HD.out HTD.out hb4)
            rw [hL] at HDO
            obtain ⟨i, hi⟩ : ∃ i, p.steps.length = i := ⟨_, rfl⟩
            rw [hi] at HDO ⊢
            have hi52 : i < 52 := by rw [← hi]; exact hl.2 ho
            have HHL := Lib.hid hL
            have HHLQ := Lib.hid hLq
            have HHS := Lib.hid hs
            have HHSQ := Lib.hid hsq
            have HHO := Lib.hid ho
            have HHOQ := Lib.hid hoq
            clear hl hp hq htr hL hLq hs hsq hs2 hi ho hoq
            go_wp2_with (first
              | (go_at_call 14; with_reducible refine (In2.legal1 H HHL.out).mono ?_; rintro e W' ⟨rfl, H', hk⟩; replace H := H'; replace HK := HK.trans hk; clear H' hk)
              | (go_at_call 14; with_reducible refine (In2.legal2 H HHLQ.out).mono ?_; rintro e W' ⟨rfl, H', hk⟩; replace H := H'; replace HK := HK.trans hk; clear H' hk)
              | (go_at_call 15; with_reducible refine (In2.turn1 H HHO.out HHS.out).mono ?_; rintro e W' ⟨rfl, H', hk⟩; replace H := H'; replace HK := HK.trans hk; clear H' hk)
              | (go_at_call 15; with_reducible refine (In2.turn2 H HHOQ.out HHSQ.out).mono ?_; rintro e W' ⟨rfl, H', hk⟩; replace H := H'; replace HK := HK.trans hk; clear H' hk)
              | (go_at_call 17; refine (law12_chosen a2 len2 cap2 zs2 i _ (hz2.below (Nat.le_refl _) (below_of_kept HK)) (by omega)).mono ?_; rintro e W' ⟨⟨v, hv, rfl⟩, rfl⟩)
              | (go_at_call 16; refine (law12_card L v hL64 hL1 hv _ (hT.below hT.pos (below_of_kept HK))).mono ?_; rintro e W' ⟨⟨c, hc64, hcb, rfl⟩, rfl⟩; have hc256 : c < 256 := (by omega); obtain ⟨p', q', t', e1, e2, ok1, ok2, hp', hq', htr', hlen⟩ := HDO.out c hcb; have HE1 := Lib.hid e1; have HE2 := Lib.hid e2; have HLEN := Lib.hid hlen; clear e1 e2 hlen)
              | (go_at_call 18; with_reducible refine (In2.do1 H hc256 HE1.out ok1).mono ?_; rintro e W' ⟨rfl, H', hk⟩; replace H := H'; replace HK := HK.trans hk; clear H' hk)
              | (go_at_call 18; with_reducible refine (In2.do2 H hc256 HE2.out ok2).mono ?_; rintro e W' ⟨rfl, H', hk⟩; replace H := H'; replace HK := HK.trans hk; clear H' hk))
            go_roundw
            case rel => exact ⟨p', q', t', by rw [HLEN.out]; go_num, H, hp', hq', htr', HK⟩
            case measure => simp [intOf]; omega
          · have hL0 : p.st.legal = 0 := legal_over ho
            have hoq : q.st.over = true := by rw [htr.over hb4, ho]
            obtain ⟨R, hR⟩ : ∃ R, tkWon p.tks (p.dc % 2) = R := ⟨_, rfl⟩
            have hRq : tkWon q.tks (q.dc % 2) = R := by
              have := htr.won (p.dc % 2) (Nat.mod_lt _ (by decide))
              rw [← hR, ← this, htr.dc]
              congr 1; omega
            obtain ⟨i, hi⟩ : ∃ i, p.steps.length = i := ⟨_, rfl⟩
            rw [hi]
            have hRl : R ≤ 60000 := by rw [← hR]; exact pt_won hp _
            have HHL := Lib.hid hL0
            have HHR := Lib.hid hR
            have HHRQ := Lib.hid hRq
            have HHO := Lib.hid ho
            have HHOQ := Lib.hid hoq
            clear hl hp hq htr hL0 hR hRq hi ho hoq
            go_wp2_with (first
              | (go_at_call 14; with_reducible refine (In2.legal1 H HHL.out).mono ?_; rintro e W' ⟨rfl, H', hk⟩; replace H := H'; replace HK := HK.trans hk; clear H' hk)
              | (go_at_call 19; with_reducible refine (In2.res1 H HHO.out HHR.out).mono ?_; rintro e W' ⟨rfl, H', hk⟩; replace H := H'; replace HK := HK.trans hk; clear H' hk)
              | (go_at_call 19; with_reducible refine (In2.res2 H HHOQ.out HHRQ.out).mono ?_; rintro e W' ⟨rfl, H', hk⟩; replace H := H'; replace HK := HK.trans hk; clear H' hk))
            go_ret
            exact ⟨rfl, below_of_kept HK⟩
  · have hRT : Row ((w3.alloc (.cells #[.int .u8 (x.lv : Int), .int .u8 (x.dn : Int), .int .u8 (x.rk : Int), .int .u8 (x.dc : Int)] 28)).alloc (.cells #[.int .u64 (x.d 0 : Int), .int .u64 (x.d 1 : Int), .int .u64 (x.d 2 : Int), .int .u64 (x.d 3 : Int)] 26)).drew (N + 2 + 1) 26 (arr4 x.d) := by
      have := Row.new (w3.alloc (.cells #[.int .u8 (x.lv : Int), .int .u8 (x.dn : Int), .int .u8 (x.rk : Int), .int .u8 (x.dc : Int)] 28)) 26 (arr4 x.d)
      rw [World.size_alloc, hs3] at this; exact this
    have hRC : Row ((w3.alloc (.cells #[.int .u8 (x.lv : Int), .int .u8 (x.dn : Int), .int .u8 (x.rk : Int), .int .u8 (x.dc : Int)] 28)).alloc (.cells #[.int .u64 (x.d 0 : Int), .int .u64 (x.d 1 : Int), .int .u64 (x.d 2 : Int), .int .u64 (x.d 3 : Int)] 26)).drew (N + 2) 28 #[.int .u8 (x.lv : Int), .int .u8 (x.dn : Int), .int .u8 (x.rk : Int), .int .u8 (x.dc : Int)] := by
      have := (Row.new w3 28 #[.int .u8 (x.lv : Int), .int .u8 (x.dn : Int), .int .u8 (x.rk : Int), .int .u8 (x.dc : Int)]).alloc (.cells #[.int .u64 (x.d 0 : Int), .int .u64 (x.d 1 : Int), .int .u64 (x.d 2 : Int), .int .u64 (x.d 3 : Int)] 26)
      rw [hs3] at this; exact this
    have hB4 := ((hB3.alloc hB3.size (.cells #[.int .u8 (x.lv : Int), .int .u8 (x.dn : Int), .int .u8 (x.rk : Int), .int .u8 (x.dc : Int)] 28)).alloc (by rw [World.size_alloc]; have := hB3.size; omega) (.cells #[.int .u64 (x.d 0 : Int), .int .u64 (x.d 1 : Int), .int .u64 (x.d 2 : Int), .int .u64 (x.d 3 : Int)] 26)).drew
    replace hR0 : Row ((w3.alloc (.cells #[.int .u8 (x.lv : Int), .int .u8 (x.dn : Int), .int .u8 (x.rk : Int), .int .u8 (x.dc : Int)] 28)).alloc (.cells #[.int .u64 (x.d 0 : Int), .int .u64 (x.d 1 : Int), .int .u64 (x.d 2 : Int), .int .u64 (x.d 3 : Int)] 26)).drew N 26 (arr4 x.d) := (hR0.alloc _).alloc _
    replace hR1 : Row ((w3.alloc (.cells #[.int .u8 (x.lv : Int), .int .u8 (x.dn : Int), .int .u8 (x.rk : Int), .int .u8 (x.dc : Int)] 28)).alloc (.cells #[.int .u64 (x.d 0 : Int), .int .u64 (x.d 1 : Int), .int .u64 (x.d 2 : Int), .int .u64 (x.d 3 : Int)] 26)).drew (N + 1) 28 #[.int .u8 (x.lv : Int), .int .u8 (x.dn : Int), .int .u8 (x.rk : Int), .int .u8 (x.dc : Int)] := (hR1.alloc _).alloc _
    generalize ((w3.alloc (.cells #[.int .u8 (x.lv : Int), .int .u8 (x.dn : Int), .int .u8 (x.rk : Int), .int .u8 (x.dc : Int)] 28)).alloc (.cells #[.int .u64 (x.d 0 : Int), .int .u64 (x.d 1 : Int), .int .u64 (x.d 2 : Int), .int .u64 (x.d 3 : Int)] 26)).drew = w4 at *
    have hT0 : N ≠ N + 2 + 1 := by omega
    have hT1 : N + 1 ≠ N + 2 + 1 := by omega
    have hTC : N + 2 ≠ N + 2 + 1 := by omega
    have hC0 : N ≠ N + 2 := by omega
    have hC1 : N + 1 ≠ N + 2 := by omega
    have hTw : w.heap.size ≤ N + 2 + 1 := by omega
    have hCw : w.heap.size ≤ N + 2 := by omega
    clear hB3 hs3 q0 q1 q2 q3 p0 p1 p2 p3
    generalize N + 2 + 1 = T at *
    generalize N + 2 = C at *
    go_wp2_with fail
    go_loopw [41] (fun i wr => ∃ (k : Nat) (f : Nat → Nat), k ≤ 4 ∧ i = .int .i64 (k : Int) ∧ Row wr T 26 (arr4 f) ∧ (∀ j, j < k → f ((j + b) % 4) = x.d j) ∧ (∀ j, 4 ≤ j → f j = 0) ∧ Kept (fun c => c ≠ T) w4 wr) (fun i _ => 4 - (intOf i).toNat)
    case atStart => exact ⟨0, x.d, by omega, rfl, hRT, fun j hj => absurd hj (Nat.not_lt_zero _), HD.out.far, Kept.refl _ _⟩
    case round =>
      obtain ⟨k, f, hk, rfl, hrt, hf, hfar, hkp⟩ := hrel
      have HF := Lib.hid hf
      have HFAR := Lib.hid hfar
      clear hf hfar
      have hr0 := hR0.kept (S := fun c => c ≠ T) hT0 hkp
      by_cases hk4 : k < 4
      · have hkk : ((k : Int) + (b : Int)) % 4 = (((k + b) % 4 : Nat) : Int) := by omega
        have hkb : (k + b) % 4 < 4 := Nat.mod_lt _ (by decide)
        have hm := (hr0.cell k).trans (arr4_get x.d _ hk4)
        have hm2 := (hrt.cell ((k + b) % 4)).trans (arr4_get f _ hkb)
        have hfz := hrt.frozen ((k + b) % 4)
        have HKB := Lib.hid (rfl : (k + b) % 4 = (k + b) % 4)
        obtain ⟨j, hj⟩ : ∃ j, j = (k + b) % 4 := ⟨_, rfl⟩
        rw [← hj] at hkk hkb hm2 hfz
        have HJ := Lib.hid hj
        clear hj HKB
        go_wp2_with fail
        go_roundw
        case rel =>
          refine ⟨k + 1, setH f j (x.d k), by omega, by go_num, ?_, fun i hi => ?_, fun i hi => ?_, hkp.setCell (by simp) _⟩
          · have := hrt.set j (.int .u64 (x.d k : Int))
            rw [arr4_set _ _ _ hkb] at this; exact this
          · unfold setH
            by_cases hik : i = k
            · rw [hik, ← HJ.out, if_pos rfl]
            · rw [if_neg (by have := HJ.out; omega)]; exact HF.out i (by omega)
          · unfold setH; rw [if_neg (by omega)]; exact HFAR.out i hi
        case measure => simp [intOf]; omega
      · have hke : k = 4 := by omega
        subst hke
        have hd2 : decide ((4 : Int) < 4) = false := rfl
        have HTD := Lib.hid (turned_deal HD.out hb4 (fun j hj => HF.out j hj) HFAR.out)
        have HTR := Lib.hid (Trn.new (lv := x.lv) (dn := x.dn) (rk := x.rk) (dc := x.dc) (fun j hj => HF.out j hj) : Trn b (newP x.d x.lv x.dn x.rk x.dc) (newP f x.lv x.dn x.rk ((x.dc + b) % 4)))
        have hr1 := hR1.kept (S := fun c => c ≠ T) hT1 hkp
        have hrc := hRC.kept (S := fun c => c ≠ T) hTC hkp
        have hB5 : Below w.heap.size w wr := hB4.trans ⟨hkp.os, hkp.tape, hkp.output, hkp.size, fun c hc => hkp.block c (by show c ≠ T; omega) (by have := hB4.size; omega)⟩
        clear hR0 hR1 hRT hRC HF HFAR hkp hB4
        have hdd : ((x.dc : Int) + (b : Int)) % 4 = (((x.dc + b) % 4 : Nat) : Int) := by omega
        have hd2c3 : (x.dc + b) % 4 ≤ 3 := by omega
        have HNP : Hid (∀ (W : World), Below w.heap.size w W → Calls Tryd.prog 13 #[.agg #[.int .u64 (x.d 0 : Int), .int .u64 (x.d 1 : Int), .int .u64 (x.d 2 : Int), .int .u64 (x.d 3 : Int)], .agg #[.int .u8 (x.lv : Int), .int .u8 (x.dn : Int), .int .u8 (x.rk : Int), .int .u8 (x.dc : Int)]] W fun e W' =>
          ∃ B, e = .returned (.tuple #[.pointer (some ⟨B, 0, none⟩), .int .i64 0]) ∧ InP W' B (newP x.d x.lv x.dn x.rk x.dc) (fun g => g < w.heap.size) ∧ Below W.heap.size W W') :=
          Lib.hid fun W hb => in_new x.d x.lv x.dn x.rk x.dc (made_w64 x) (made_new x) _ W (fun g hg => Nat.lt_of_lt_of_le hg hb.size) (hT.below hT.pos hb) hT.pos
        have HNQ : Hid (∀ (W : World), Below w.heap.size w W → Calls Tryd.prog 13 #[.agg #[.int .u64 (f 0 : Int), .int .u64 (f 1 : Int), .int .u64 (f 2 : Int), .int .u64 (f 3 : Int)], .agg #[.int .u8 (x.lv : Int), .int .u8 (x.dn : Int), .int .u8 (x.rk : Int), .int .u8 (((x.dc + b) % 4 : Nat) : Int)]] W fun e W' =>
          ∃ B, e = .returned (.tuple #[.pointer (some ⟨B, 0, none⟩), .int .i64 0]) ∧ InP W' B (newP f x.lv x.dn x.rk ((x.dc + b) % 4)) (fun g => g < W.heap.size) ∧ Below W.heap.size W W') :=
          Lib.hid fun W hb => in_new f x.lv x.dn x.rk ((x.dc + b) % 4) (fun j => Nat.lt_of_lt_of_le (HTD.out.lt j) (by decide)) (newE4 HTD.out HCT.out.2.1 HCT.out.1 HCT.out.2.2.1 HCT.out.2.2.2.1 hd2c3) _ W (fun g hg => hg) (hT.below hT.pos hb) (Nat.lt_of_lt_of_le hT.pos hb.size)
        have HP0 := Lib.hid (PInv.new x)
        have HQ0 := Lib.hid (PInv.new4 HTD.out (newE4 HTD.out HCT.out.2.1 HCT.out.1 HCT.out.2.2.1 HCT.out.2.2.2.1 hd2c3))
        have HP00 : Hid ((newP x.d x.lv x.dn x.rk x.dc).st.ct = 0) := Lib.hid rfl
        generalize (x.dc + b) % 4 = dc2 at *
        generalize newP x.d x.lv x.dn x.rk x.dc = p0 at *
        generalize newP f x.lv x.dn x.rk dc2 = q0 at *
        have hm3 := hr1.cell 3
        have hm4 := hrc.cell 3
        have hf4 := hrc.frozen 3
        simp only [List.getElem?_toArray, List.getElem?_cons_zero, List.getElem?_cons_succ] at hm3 hm4
        have S0 : Row (wr.setCell ⟨C, 3, none⟩ (.int .u8 (dc2 : Int))) N 26 (arr4 x.d) := hr0.other hC0
        have S1 : Row (wr.setCell ⟨C, 3, none⟩ (.int .u8 (dc2 : Int))) (N + 1) 28 #[.int .u8 (x.lv : Int), .int .u8 (x.dn : Int), .int .u8 (x.rk : Int), .int .u8 (x.dc : Int)] := hr1.other hC1
        have ST : Row (wr.setCell ⟨C, 3, none⟩ (.int .u8 (dc2 : Int))) T 26 (arr4 f) := hrt.other (fun e => hTC e.symm)
        have SC : Row (wr.setCell ⟨C, 3, none⟩ (.int .u8 (dc2 : Int))) C 28 #[.int .u8 (x.lv : Int), .int .u8 (x.dn : Int), .int .u8 (x.rk : Int), .int .u8 (dc2 : Int)] := hrc.set 3 (.int .u8 (dc2 : Int))
        have hB6 : Below w.heap.size w (wr.setCell ⟨C, 3, none⟩ (.int .u8 (dc2 : Int))) := hB5.setCell (p := ⟨C, 3, none⟩) hCw _
        have HB6 := Lib.hid hB6
        have HST := Lib.hid ST
        have HSC := Lib.hid SC
        have q0 := S0.cell 0
        have q1 := S0.cell 1
        have q2 := S0.cell 2
        have q3 := S0.cell 3
        simp only [List.getElem?_toArray, List.getElem?_cons_zero, List.getElem?_cons_succ] at q0 q1 q2 q3
        have p0 := S1.cell 0
        have p1 := S1.cell 1
        have p2 := S1.cell 2
        have p3 := S1.cell 3
        simp only [List.getElem?_toArray, List.getElem?_cons_zero, List.getElem?_cons_succ] at p0 p1 p2 p3
        clear S0 S1 ST SC hr0 hr1 hrt hrc hB5 hB6
        go_upto_region 13 with (first
          | (go_at_call 13; refine (HNP.out _ HB6.out).mono ?_; rintro e W1 ⟨B1, rfl, H1, hb7⟩; have HB7 := Lib.hid (HB6.out.trans (hb7.mono HB6.out.size)); have UT := HST.out.below HST.out.lt hb7; have UC := HSC.out.below HSC.out.lt hb7; have u0 := UT.cell 0; have u1 := UT.cell 1; have u2 := UT.cell 2; have u3 := UT.cell 3; have v0 := UC.cell 0; have v1 := UC.cell 1; have v2 := UC.cell 2; have v3 := UC.cell 3; simp only [List.getElem?_toArray, List.getElem?_cons_zero, List.getElem?_cons_succ] at u0 u1 u2 u3 v0 v1 v2 v3; clear UT UC hb7))
        clear q0 q1 q2 q3 p0 p1 p2 p3
        go_upto_region 17 with (first
          | (go_at_call 13; refine (HNQ.out _ HB7.out).mono ?_; rintro e W2 ⟨B2, rfl, H2, hb8⟩))
        clear u0 u1 u2 u3 v0 v1 v2 v3
        have HK0 : Kept (fun g => g < w.heap.size) w W2 := Kept.of_below (HB7.out.trans (hb8.mono HB7.out.size))
        have H0 : In2 W2 B1 p0 B2 q0 (fun g => g < w.heap.size) := In2.new H1 H2 hb8
        clear H1 H2 hb8 HNP HNQ HST HSC HB6 HB7
        go_loopw [20] (fun i wr => ∃ p q t, i = .int .i64 (p.steps.length : Int) ∧ In2 wr B1 p B2 q (fun g => g < w.heap.size) ∧ PInv x.d x.each p t ∧ PInv f x.each q t ∧ Trn b p q ∧ Kept (fun g => g < w.heap.size) w wr) (fun i _ => 53 - (intOf i).toNat)
        case atStart => exact ⟨p0, q0, 0, by rw [HP0.out.many, HP00.out]; rfl, H0, HP0.out, HQ0.out, HTR.out, HK0⟩
        case round =>
          obtain ⟨p, q, t, rfl, H, hp, hq, htr, HK⟩ := hrel
          clear H0 HK0
          have hl := pt_len hp HD.out
          cases ho : p.st.over
          · obtain ⟨L, hL⟩ : ∃ L, p.st.legal = L := ⟨_, rfl⟩
            have hLq : q.st.legal = L := by rw [htr.legal hb4, hL]
            have hoq : q.st.over = false := by rw [htr.over hb4, ho]
            obtain ⟨s, hs⟩ : ∃ s, p.st.next = s := ⟨_, rfl⟩
            have hs4 : s < 4 := by rw [← hs]; exact next_lt _
            obtain ⟨s2, hs2⟩ : ∃ s2, (s + b) % 4 = s2 := ⟨_, rfl⟩
            have hsq : q.st.next = s2 := by rw [htr.next, hs, hs2]
            have hss : ((s : Int) + (b : Int)) % 4 = (s2 : Int) := by omega
            have hs24 : s2 < 4 := by omega
            have hL1 : L ≠ 0 := by rw [← hL]; exact hp.legal_ne HD.out ho
            have hL64 : W64 L := by rw [← hL]; exact hp.legal64 HD.out
            have hLb : ((L : Int) != 0) = true := by rw [bne_iff_ne]; omega
            have HDO := Lib.hid (pt_do hp hq htr HD.out HTD.out hb4)
            rw [hL] at HDO
            obtain ⟨i, hi⟩ : ∃ i, p.steps.length = i := ⟨_, rfl⟩
            rw [hi] at HDO ⊢
            have hi52 : i < 52 := by rw [← hi]; exact hl.2 ho
            have HHL := Lib.hid hL
            have HHLQ := Lib.hid hLq
            have HHS := Lib.hid hs
            have HHSQ := Lib.hid hsq
            have HHO := Lib.hid ho
            have HHOQ := Lib.hid hoq
            clear hl hp hq htr hL hLq hs hsq hs2 hi ho hoq
            go_wp2_with (first
              | (go_at_call 14; with_reducible refine (In2.legal1 H HHL.out).mono ?_; rintro e W' ⟨rfl, H', hk⟩; replace H := H'; replace HK := HK.trans hk; clear H' hk)
              | (go_at_call 14; with_reducible refine (In2.legal2 H HHLQ.out).mono ?_; rintro e W' ⟨rfl, H', hk⟩; replace H := H'; replace HK := HK.trans hk; clear H' hk)
              | (go_at_call 15; with_reducible refine (In2.turn1 H HHO.out HHS.out).mono ?_; rintro e W' ⟨rfl, H', hk⟩; replace H := H'; replace HK := HK.trans hk; clear H' hk)
              | (go_at_call 15; with_reducible refine (In2.turn2 H HHOQ.out HHSQ.out).mono ?_; rintro e W' ⟨rfl, H', hk⟩; replace H := H'; replace HK := HK.trans hk; clear H' hk)
              | (go_at_call 17; refine (law12_chosen a2 len2 cap2 zs2 i _ (hz2.below (Nat.le_refl _) (below_of_kept HK)) (by omega)).mono ?_; rintro e W' ⟨⟨v, hv, rfl⟩, rfl⟩)
              | (go_at_call 16; refine (law12_card L v hL64 hL1 hv _ (hT.below hT.pos (below_of_kept HK))).mono ?_; rintro e W' ⟨⟨c, hc64, hcb, rfl⟩, rfl⟩; have hc256 : c < 256 := (by omega); obtain ⟨p', q', t', e1, e2, ok1, ok2, hp', hq', htr', hlen⟩ := HDO.out c hcb; have HE1 := Lib.hid e1; have HE2 := Lib.hid e2; have HLEN := Lib.hid hlen; clear e1 e2 hlen)
              | (go_at_call 18; with_reducible refine (In2.do1 H hc256 HE1.out ok1).mono ?_; rintro e W' ⟨rfl, H', hk⟩; replace H := H'; replace HK := HK.trans hk; clear H' hk)
              | (go_at_call 18; with_reducible refine (In2.do2 H hc256 HE2.out ok2).mono ?_; rintro e W' ⟨rfl, H', hk⟩; replace H := H'; replace HK := HK.trans hk; clear H' hk))
            go_roundw
            case rel => exact ⟨p', q', t', by rw [HLEN.out]; go_num, H, hp', hq', htr', HK⟩
            case measure => simp [intOf]; omega
          · have hL0 : p.st.legal = 0 := legal_over ho
            have hoq : q.st.over = true := by rw [htr.over hb4, ho]
            obtain ⟨R, hR⟩ : ∃ R, tkWon p.tks (p.dc % 2) = R := ⟨_, rfl⟩
            have hRq : tkWon q.tks (q.dc % 2) = R := by
              have := htr.won (p.dc % 2) (Nat.mod_lt _ (by decide))
              rw [← hR, ← this, htr.dc]
              congr 1; omega
            obtain ⟨i, hi⟩ : ∃ i, p.steps.length = i := ⟨_, rfl⟩
            rw [hi]
            have hRl : R ≤ 60000 := by rw [← hR]; exact pt_won hp _
            have HHL := Lib.hid hL0
            have HHR := Lib.hid hR
            have HHRQ := Lib.hid hRq
            have HHO := Lib.hid ho
            have HHOQ := Lib.hid hoq
            clear hl hp hq htr hL0 hR hRq hi ho hoq
            go_wp2_with (first
              | (go_at_call 14; with_reducible refine (In2.legal1 H HHL.out).mono ?_; rintro e W' ⟨rfl, H', hk⟩; replace H := H'; replace HK := HK.trans hk; clear H' hk)
              | (go_at_call 19; with_reducible refine (In2.res1 H HHO.out HHR.out).mono ?_; rintro e W' ⟨rfl, H', hk⟩; replace H := H'; replace HK := HK.trans hk; clear H' hk)
              | (go_at_call 19; with_reducible refine (In2.res2 H HHOQ.out HHRQ.out).mono ?_; rintro e W' ⟨rfl, H', hk⟩; replace H := H'; replace HK := HK.trans hk; clear H' hk))
            go_ret
            exact ⟨rfl, below_of_kept HK⟩
theorem law_PlayTurned (a : Option Addr) (len cap : Nat) (zs : List Nat) (n c : Nat) (a2 : Option Addr) (len2 cap2 : Nat) (zs2 : List Nat) (turn : Nat) (w : World) (hz : Byt w a len zs) (hn : n < 256) (hc : c < 256) (hz2 : Byt w a2 len2 zs2) (hby : turn < 256) (hT : Tab w) :
    Calls Tryd.prog 3 #[.slice a len cap, .int .u8 (n : Int), .int .u8 (c : Int), .slice a2 len2 cap2, .int .u8 (turn : Int)] w fun e w' => e = .returned (.bool true) ∧ Below w.heap.size w w' :=
  pt_all ⟨zs, n, c⟩ a len cap turn a2 len2 cap2 zs2 w hz hz2 hn hc hby hT
end Go.Proofs.YtginbellakkliaaDoor
