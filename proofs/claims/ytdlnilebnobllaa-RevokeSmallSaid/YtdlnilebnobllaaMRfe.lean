/- RfE, RfF in one text. -/
import Derived.Test.YtdlnilebnobllaaRfD

/- The reference of chapter 13 over this seat's program: Right, won. -/
namespace Go.Proofs.Ytdlnilebnobllaa
open Go.RowKit Go.Shelf Go.Sort

set_option maxHeartbeats 1000000 in
set_option maxRecDepth 100000 in
theorem rf_right (r : Rc) (a : Option Addr) (len cap : Nat) (w : World) (hok : r.ok len cap) (hz : Byt w a len r.zs) (h60 : len ≤ 60000) :
    Calls Try.prog 25 #[r.v a len cap] w fun e w' => e = .returned (.tuple #[.int .i64 r.rightV.1, .int .i64 (r.rightV.2 : Int)]) ∧ Below w.heap.size w w' := by
  have hB0 := (Below.refl w.heap.size w).alloc (Nat.le_refl _) (.cells (r.cells a len cap) 57)
  have hDD := rf_dealt r a len cap (w.alloc (.cells (r.cells a len cap) 57)) hok.h
  have hR0 := Row.new w 57 (r.cells a len cap)
  have HLEN := Lib.hid hz.length
  have hgl := good_le r
  cases hd : r.dealt
  · rw [hd] at hDD
    have HR := Lib.hid (show r.rightV = (-1, 130) by unfold Rc.rightV; rw [hd]; rfl)
    have HDD := Lib.hid hDD
    clear hd hDD
    rw [HR.out]
    go_enter Try.func25, Try.ntmps25
    go_wp2_with (go_at_call 40; refine HDD.out.mono ?_; rintro e w1 ⟨rfl, hb1⟩)
    go_ret2
    exact ⟨rfl, hB0.trans (hb1.mono (by simp))⟩
  · rw [hd] at hDD
    have HS := Lib.hid (fun (w1 : World) (hb : Below w.heap.size w w1) => rf_seats r a len cap w1 hok (hz.below (Nat.le_refl _) hb) hd h60)
    have HDD := Lib.hid hDD
    have HR := Lib.hid (show r.rightV = if r.good < r.zs.length then ((r.good : Int), 131) else (-1, 0) from right_of_good hd)
    have hsz : r.good ≤ 60000 := by have := HLEN.out; omega
    clear hd hDD
    by_cases hg : r.good < r.zs.length
    · have hst : r.stop = (r.good : Int) := by unfold Rc.stop; rw [if_pos hg]
      rw [if_pos hg] at HR
      rw [hst] at HS
      rw [HR.out]
      clear hst hg
      generalize r.good = g at *
      go_enter Try.func25, Try.ntmps25
      go_wp2_with fail
      refine HDD.out.mono ?_
      rintro e w1 ⟨rfl, hb1⟩
      have hR1 := hR0.below (by simp) hb1
      have hB1 := hB0.trans (hb1.mono (by simp))
      have c0 := hR1.cell 0
      have c1 := hR1.cell 1
      have c2 := hR1.cell 2
      have c3 := hR1.cell 3
      have c4 := hR1.cell 4
      have c5 := hR1.cell 5
      have c6 := hR1.cell 6
      simp only [List.getElem?_toArray, List.getElem?_cons_zero, List.getElem?_cons_succ] at c0 c1 c2 c3 c4 c5 c6
      clear hb1
      go_wp2_with fail
      refine (HS.out w1 hB1).mono ?_
      rintro e w2 ⟨v, rfl, -, hb2⟩
      have hB2 := hB1.trans (hb2.mono hB1.size)
      clear c0 c1 c2 c3 c4 c5 c6
      go_wp2
      go_ret2
      exact ⟨rfl, hB2⟩
    · have hst : r.stop = -1 := by unfold Rc.stop; rw [if_neg hg]
      rw [if_neg hg] at HR
      rw [hst] at HS
      rw [HR.out]
      clear hst hg
      go_enter Try.func25, Try.ntmps25
      go_wp2_with fail
      refine HDD.out.mono ?_
      rintro e w1 ⟨rfl, hb1⟩
      have hR1 := hR0.below (by simp) hb1
      have hB1 := hB0.trans (hb1.mono (by simp))
      have c0 := hR1.cell 0
      have c1 := hR1.cell 1
      have c2 := hR1.cell 2
      have c3 := hR1.cell 3
      have c4 := hR1.cell 4
      have c5 := hR1.cell 5
      have c6 := hR1.cell 6
      simp only [List.getElem?_toArray, List.getElem?_cons_zero, List.getElem?_cons_succ] at c0 c1 c2 c3 c4 c5 c6
      clear hb1
      go_wp2_with fail
      refine (HS.out w1 hB1).mono ?_
      rintro e w2 ⟨v, rfl, -, hb2⟩
      have hB2 := hB1.trans (hb2.mono hB1.size)
      clear c0 c1 c2 c3 c4 c5 c6
      go_wp2
      go_ret2
      exact ⟨rfl, hB2⟩
/-- how many of the first k from a trick on a side won -/
def wonK (ws : List Nat) (side start k : Nat) : Nat := ((ws.drop start).take k).countP fun s => s % 2 == side
theorem wonK_succ (ws : List Nat) (side start k : Nat) (h : start + k < ws.length) : wonK ws side start (k + 1) = wonK ws side start k + if ws.getD (start + k) 0 % 2 = side then 1 else 0 := by
  unfold wonK
  have hk : k < (ws.drop start).length := by simp; omega
  rw [List.take_succ_eq_append_getElem hk, List.countP_append, List.getElem_drop, List.getD_eq_getElem?_getD, List.getElem?_eq_getElem h]
  simp [List.countP_cons]
theorem wonK_le (ws : List Nat) (side start k : Nat) : wonK ws side start k ≤ k := Nat.le_trans List.countP_le_length (List.length_take_le _ _)
theorem wonK_all (ws : List Nat) (side start k : Nat) (h : ws.length ≤ start + k) : wonK ws side start k = wonV ws side start := by
  unfold wonK wonV
  rw [List.take_of_length_le (by simp; omega)]
set_option maxHeartbeats 1000000 in
theorem rf_won (ws : List Nat) (a : Option Addr) (len cap start side : Nat) (w : World) (hz : Byt w a len ws) (hs : start ≤ 60000) (h60 : len ≤ 60000) :
    Calls Try.prog 46 #[.slice a len cap, .int .i64 (start : Int), .int .u8 (side : Int)] w fun e w' => e = .returned (.int .i64 (wonV ws side start : Int)) ∧ w = w' := by
  have HLEN := Lib.hid hz.length
  go_enter Try.func46, Try.ntmps46
  go_wp2
  go_loop [7, 8] (fun n i => ∃ k : Nat, (k = 0 ∨ start + k ≤ len) ∧ i = .int .i64 ((start + k : Nat) : Int) ∧ n = .int .i64 (wonK ws side start k : Int)) (fun _ i => len - (intOf i).toNat)
  case atStart => exact ⟨0, by omega, rfl, rfl⟩
  case round =>
    obtain ⟨k, hk, rfl, rfl⟩ := hrel
    by_cases hlt : start + k < len
    · obtain ⟨b, off, rfl, hbb, hcs⟩ := hz.at (by omega)
      have hck := hcs (start + k) hlt
      have HWS := Lib.hid (wonK_succ ws side start k (by rw [HLEN.out]; exact hlt))
      have hle := wonK_le ws side start k
      have hk6 : k ≤ 60000 := by omega
      clear hcs
      generalize ws.getD (start + k) 0 = z at *
      generalize wonK ws side start k = m at *
      generalize hxE : start + k = x at *
      have HX := Lib.hid hxE
      clear hxE
      by_cases hp : z % 2 = side
      · have hpI : ((z : Int) % 2 == (side : Int)) = true := by rw [beq_iff_eq]; omega
        rw [if_pos hp] at HWS
        clear hp
        go_wp2
        go_round
        case rel => exact ⟨k + 1, by have := HX.out; omega, by rw [show start + (k + 1) = x + 1 by have := HX.out; omega]; go_num, by rw [HWS.out]; go_num⟩
        case measure => simp [intOf]; omega
      · have hpI : ((z : Int) % 2 == (side : Int)) = false := by rw [beq_eq_false_iff_ne]; omega
        rw [if_neg hp] at HWS
        clear hp
        go_wp2
        go_round
        case rel => exact ⟨k + 1, by have := HX.out; omega, by rw [show start + (k + 1) = x + 1 by have := HX.out; omega]; go_num, by rw [HWS.out]; rfl⟩
        case measure => simp [intOf]; omega
    · have HW := Lib.hid (wonK_all ws side start k (by rw [HLEN.out]; omega))
      rw [HW.out]
      generalize start + k = x at *
      go_wp2
      go_ret
      exact ⟨rfl, rfl⟩
end Go.Proofs.Ytdlnilebnobllaa

/- Plain: the reference's side of chapter 13 is the program's count. -/
namespace Go.Proofs.Ytdlnilebnobllaa
open Go.RowKit Go.Shelf Go.Sort

/-- what a revoke moves, for the reference -/
def mvR (ws : List Nat) (who : Nat) (x : Rvk) : Nat := if ws.getD x.trick 0 = x.seat then (if 0 < wonV ws who (x.trick + 1) then 2 else 1) else if 0 < wonV ws who x.trick then 1 else 0
/-- whether a revoke of the same seat and suit stands among the first k -/
def agR (l : List Rvk) (x : Rvk) (k : Nat) : Bool := (l.take k).any fun y => y.est && (y.seat == x.seat && y.suit == x.suit)
theorem agR_succ (l : List Rvk) (x : Rvk) (k : Nat) (h : k < l.length) : agR l x (k + 1) = (agR l x k || (l[k].est && (l[k].seat == x.seat && l[k].suit == x.suit))) := by
  unfold agR
  rw [List.take_succ_eq_append_getElem h, List.any_append]
  simp
/-- the sum and the first trick, after k revokes -/
def sdStep (d : Nat) (ws : List Nat) (who : Nat) (l : List Rvk) (k : Nat) (s : Nat × Int) (x : Rvk) : Nat × Int :=
  if x.est = false ∨ x.seat = (d + 2) % 4 then s else (if agR l x k then s.1 else s.1 + mvR ws who x, if s.2 < 0 then (x.trick : Int) else s.2)
def sdTo (d : Nat) (ws : List Nat) (who : Nat) (l : List Rvk) : Nat → Nat × Int
  | 0 => (0, -1)
  | k + 1 => if h : k < l.length then sdStep d ws who l k (sdTo d ws who l k) l[k] else sdTo d ws who l k
theorem sdTo_succ (d : Nat) (ws : List Nat) (who : Nat) (l : List Rvk) {k : Nat} (h : k < l.length) : sdTo d ws who l (k + 1) = sdStep d ws who l k (sdTo d ws who l k) l[k] := by rw [sdTo, dif_pos h]
theorem mvR_le (ws : List Nat) (who : Nat) (x : Rvk) : mvR ws who x ≤ 2 := by unfold mvR; (repeat' split) <;> omega
theorem sdTo_le (d : Nat) (ws : List Nat) (who : Nat) (l : List Rvk) : ∀ k, k ≤ l.length → (sdTo d ws who l k).1 ≤ 2 * k
  | 0, _ => Nat.le_refl _
  | k + 1, h => by
    rw [sdTo_succ d ws who l (by omega)]
    have ih := sdTo_le d ws who l k (by omega)
    have := mvR_le ws who l[k]
    unfold sdStep
    split
    · omega
    · dsimp only; split <;> omega
theorem sdTo_first (d : Nat) (ws : List Nat) (who : Nat) (l : List Rvk) : ∀ k, (sdTo d ws who l k).2 = -1 ∨ ∃ v ∈ l, v.est = true ∧ (sdTo d ws who l k).2 = (v.trick : Int)
  | 0 => .inl rfl
  | k + 1 => by
    have ih := sdTo_first d ws who l k
    unfold sdTo
    split
    next h =>
      unfold sdStep
      split
      · exact ih
      next hn =>
        dsimp only
        split
        · exact .inr ⟨l[k], List.getElem_mem _, by cases he : l[k].est; exact absurd (.inl he) hn; rfl, rfl⟩
        · exact ih
    · exact ih
/-- whether a revoke of the other side is established -/
def othR (l : List Rvk) (who : Nat) (k : Nat) : Bool := (l.take k).any fun y => y.est && decide (y.seat % 2 ≠ who)
theorem othR_succ (l : List Rvk) (who k : Nat) (h : k < l.length) : othR l who (k + 1) = (othR l who k || (l[k].est && decide (l[k].seat % 2 ≠ who))) := by
  unfold othR
  rw [List.take_succ_eq_append_getElem h, List.any_append]
  simp
theorem othR_mono (l : List Rvk) (who : Nat) {k m : Nat} (h : k ≤ m) (ho : othR l who k = true) : othR l who m = true := by
  unfold othR at *
  rw [List.any_eq_true] at *
  obtain ⟨y, h1, h2⟩ := ho
  exact ⟨y, List.take_subset_take_left l h h1, h2⟩
def sideR (d : Nat) (l : List Rvk) (ws : List Nat) (who : Nat) : Nat :=
  if othR l who l.length then 0
  else if 0 ≤ (sdTo d ws who l l.length).2 then min (sdTo d ws who l l.length).1 (wonV ws who (sdTo d ws who l l.length).2.toNat) else (sdTo d ws who l l.length).1

/-- the reference's sum beside the program's count -/
structure SdRel (d : Nat) (ws : List Nat) (who : Nat) (l : List Rvk) (k : Nat) (s : Nat × Int) (c : Cnt) : Prop where
  met : ∀ p q, (p, q) ∈ c.met ↔ p ≠ (d + 2) % 4 ∧ ∃ y ∈ l.take k, y.est = true ∧ y.seat = p ∧ y.suit = q
  none : c.met = [] ↔ s.2 < 0
  zero : s.2 < 0 → s.1 = 0
  lim : 0 ≤ s.2 → c.lim = wonV ws who s.2.toNat
  sum : 0 ≤ s.2 → (if who = 0 then c.s0 else c.s1) = min c.lim s.1
  sum0 : s.2 < 0 → (if who = 0 then c.s0 else c.s1) = 0
  other : (if who = 0 then c.s1 else c.s0) = 0
theorem mvR_eq (ws : List Nat) (x : Rvk) : mvR ws (x.seat % 2) x = movesV x ws := by
  unfold mvR movesV
  split
  · split <;> omega
  · split <;> omega
theorem sdRel_step {d : Nat} {ws : List Nat} {who : Nat} (hwho : who < 2) {l : List Rvk} {k : Nat} (hk : k < l.length) {s : Nat × Int} {c : Cnt} (h : SdRel d ws who l k s c) (hside : l[k].est = true → l[k].seat % 2 = who) :
    SdRel d ws who l (k + 1) (sdStep d ws who l k s l[k]) (cntStep d ws c l[k]) := by
  have hmk : ∀ y, y ∈ l.take (k + 1) ↔ y ∈ l.take k ∨ y = l[k] := fun y => by
    rw [List.take_succ_eq_append_getElem hk, List.mem_append, List.mem_singleton]
  have hag : agR l l[k] k = true ↔ ∃ y ∈ l.take k, y.est = true ∧ y.seat = l[k].seat ∧ y.suit = l[k].suit := by
    unfold agR
    rw [List.any_eq_true]
    constructor
    · rintro ⟨y, h1, h2⟩
      simp only [Bool.and_eq_true, beq_iff_eq] at h2
      exact ⟨y, h1, h2.1, h2.2.1, h2.2.2⟩
    · rintro ⟨y, h1, h2, h3, h4⟩
      exact ⟨y, h1, by simp [h2, h3, h4]⟩
  obtain ⟨h1, h2, h3, h4, h5, h6, h7⟩ := h
  generalize l[k] = x at *
  unfold sdStep
  by_cases hs : x.est = false ∨ x.seat = (d + 2) % 4
  · rw [if_pos hs]
    have hc : cntStep d ws c x = c := by
      unfold cntStep
      rw [if_pos (by rcases hs with h | h; exact .inl h; exact .inr (.inl h))]
    rw [hc]
    refine ⟨fun p q => ?_, h2, h3, h4, h5, h6, h7⟩
    rw [h1]
    constructor
    · rintro ⟨a1, y, a2, a3⟩; exact ⟨a1, y, (hmk y).2 (.inl a2), a3⟩
    · rintro ⟨a1, y, a2, a3⟩
      rcases (hmk y).1 a2 with a2 | rfl
      · exact ⟨a1, y, a2, a3⟩
      · rcases hs with h | h
        · rw [h] at a3; exact absurd a3.1 (by simp)
        · exact absurd (a3.2.1.symm.trans h) a1
  · rw [if_neg hs]
    have he : x.est = true := by cases h : x.est; exact absurd (.inl h) hs; rfl
    have hns : x.seat ≠ (d + 2) % 4 := fun h => hs (.inr h)
    have hw := hside he
    have hmem : (x.seat, x.suit) ∈ c.met ↔ agR l x k = true := by
      rw [h1, hag]
      exact ⟨fun h => h.2, fun h => ⟨hns, h⟩⟩
    by_cases ha : agR l x k = true
    · have hc : cntStep d ws c x = c := by
        unfold cntStep
        rw [if_pos (.inr (.inr (hmem.2 ha)))]
      have hne : ¬ s.2 < 0 := fun h => by
        have := h2.2 h
        have h8 := hmem.2 ha
        rw [this] at h8; cases h8
      rw [hc, if_pos ha, if_neg hne]
      refine ⟨fun p q => ?_, h2, h3, h4, h5, h6, h7⟩
      rw [h1]
      constructor
      · rintro ⟨a1, y, a2, a3⟩; exact ⟨a1, y, (hmk y).2 (.inl a2), a3⟩
      · rintro ⟨a1, y, a2, a3⟩
        rcases (hmk y).1 a2 with a2 | rfl
        · exact ⟨a1, y, a2, a3⟩
        · obtain ⟨z, b1, b2, b3, b4⟩ := hag.1 ha
          exact ⟨a1, z, b1, b2, b3.trans a3.2.1, b4.trans a3.2.2⟩
    · have hnm : (x.seat, x.suit) ∉ c.met := fun h => ha (hmem.1 h)
      rw [if_neg ha]
      unfold cntStep
      have hcond : ¬ (x.est = false ∨ x.seat = (d + 2) % 4 ∨ (x.seat, x.suit) ∈ c.met) := by
        rintro (h | h | h)
        · exact hs (.inl h)
        · exact hs (.inr h)
        · exact hnm h
      rw [if_neg hcond]
      have hmv : mvR ws who x = movesV x ws := by rw [← hw]; exact mvR_eq ws x
      have hl : (if c.met = [] then wonV ws (x.seat % 2) x.trick else c.lim) = wonV ws who (if s.2 < 0 then (x.trick : Int) else s.2).toNat := by
        by_cases h : s.2 < 0
        · rw [if_pos (h2.2 h), if_pos h, hw]; rfl
        · rw [if_neg (fun h' => h (h2.1 h')), if_neg h, h4 (by omega)]
      have hpos : 0 ≤ (if s.2 < 0 then (x.trick : Int) else s.2) := by split <;> omega
      have hold : (if who = 0 then c.s0 else c.s1) = min (wonV ws who (if s.2 < 0 then (x.trick : Int) else s.2).toNat) s.1 := by
        by_cases h : s.2 < 0
        · rw [h6 h, h3 h]; simp
        · rw [h5 (by omega), if_neg h, h4 (by omega)]
      refine ⟨fun p q => ?_, ?_, fun h => by dsimp only at h; omega, fun _ => by dsimp only; exact hl, fun _ => ?_, fun h => by dsimp only at h; omega, ?_⟩
      · dsimp only
        rw [List.mem_append, h1, List.mem_singleton, Prod.mk.injEq]
        constructor
        · rintro (⟨a1, y, a2, a3⟩ | ⟨rfl, rfl⟩)
          · exact ⟨a1, y, (hmk y).2 (.inl a2), a3⟩
          · exact ⟨hns, x, (hmk x).2 (.inr rfl), he, rfl, rfl⟩
        · rintro ⟨a1, y, a2, a3, a4, a5⟩
          rcases (hmk y).1 a2 with a2 | rfl
          · exact .inl ⟨a1, y, a2, a3, a4, a5⟩
          · exact .inr ⟨a4.symm, a5.symm⟩
      · dsimp only
        constructor
        · intro h; simp at h
        · intro h; omega
      · dsimp only
        rw [hl, hmv]
        by_cases hw0 : who = 0
        · subst hw0
          simp only [if_true] at hold ⊢
          rw [if_pos hw, hold]
          omega
        · have hw1 : ¬ x.seat % 2 = 0 := by omega
          rw [if_neg hw0] at hold ⊢
          rw [if_neg hw1, hold]
          omega
      · dsimp only
        by_cases hw0 : who = 0
        · subst hw0
          simp only [if_true] at h7 ⊢
          rw [if_pos hw]; exact h7
        · have hw1 : ¬ x.seat % 2 = 0 := by omega
          rw [if_neg hw0] at h7 ⊢
          rw [if_neg hw1]; exact h7
theorem sdRel_all {d : Nat} {ws : List Nat} {who : Nat} (hwho : who < 2) {l : List Rvk} (hside : ∀ v ∈ l, v.est = true → v.seat % 2 = who) : ∀ k, k ≤ l.length → SdRel d ws who l k (sdTo d ws who l k) (cntAll d ws (l.take k))
  | 0, _ => ⟨fun p q => by simp [cntAll], by simp [cntAll, sdTo], fun _ => rfl, fun h => by simp [sdTo] at h, fun h => by simp [sdTo] at h, fun _ => by simp [cntAll], by simp [cntAll]⟩
  | k + 1, hk => by
    have h1 := sdRel_step hwho (show k < l.length by omega) (sdRel_all (d := d) (ws := ws) hwho hside k (by omega)) (hside l[k] (List.getElem_mem _))
    rw [sdTo_succ d ws who l (by omega)]
    have e : cntAll d ws (l.take (k + 1)) = cntStep d ws (cntAll d ws (l.take k)) l[k] := by
      unfold cntAll
      rw [List.take_succ_eq_append_getElem (by omega), List.foldl_append]; rfl
    rw [e]
    exact h1
/-- the reference's side, beside the program's sums -/
theorem sideR_eq (d : Nat) (ws : List Nat) (l : List Rvk) (who : Nat) (hwho : who < 2) : sideR d l ws who = if sideV l (1 - who) then 0 else (if who = 0 then (cntAll d ws l).s0 else (cntAll d ws l).s1) := by
  have ho : othR l who l.length = sideV l (1 - who) := by
    unfold othR sideV
    rw [List.take_length]
    congr 1
    funext y
    congr 1
    rw [Bool.eq_iff_iff, decide_eq_true_eq, beq_iff_eq]
    omega
  unfold sideR
  rw [ho]
  cases hs : sideV l (1 - who)
  · simp only [Bool.false_eq_true, if_false]
    have hside : ∀ v ∈ l, v.est = true → v.seat % 2 = who := by
      intro v hv he
      unfold sideV at hs
      rw [List.any_eq_false] at hs
      have := hs v hv
      simp [he] at this
      omega
    have h := sdRel_all (d := d) (ws := ws) hwho hside l.length (Nat.le_refl _)
    rw [List.take_length] at h
    obtain ⟨h1, h2, h3, h4, h5, h6, h7⟩ := h
    by_cases hp : 0 ≤ (sdTo d ws who l l.length).2
    · rw [if_pos hp, h5 hp, h4 hp]; omega
    · rw [if_neg hp, h6 (by omega), h3 (by omega)]
  · simp
end Go.Proofs.Ytdlnilebnobllaa
