/- Trick, TrickS in one text. -/
import Derived.Test.YtginbellakkliaaDoorCard
import Derived.Lib.QuietBelow
import Derived.BigQuiet
import Derived.RangeFuncNested
import Derived.Shelf.Abstract

/- Contracts of package trick over this seat's program: Right, strengths, best, Strength, Winner, Seat, Beats. -/
namespace Go.Proofs.YtginbellakkliaaDoor
open Go.RowKit Go.Sort

/-- trick.Strength, the cards being right -/
def strength (t l c : Nat) : Nat := if suit c = t then 14 + rank c else if suit c = l then 1 + rank c else 0
/-- trick.Right -/
def rightB (zs : List Nat) : Bool := decide (1 ≤ zs.length) && decide (zs.length ≤ 4) && ((maskR 0 zs).2 == 0)
/-- trick.best, k rounds -/
def bestTo (val : Nat → Int) (zs : List Nat) : Nat → Nat
  | 0 => 0
  | k + 1 => if val (zs.getD (bestTo val zs k) 0) < val (zs.getD k 0) then k else bestTo val zs k

theorem bestTo_lt (val : Nat → Int) (zs : List Nat) : ∀ k, 0 < k → bestTo val zs k < k
  | 1, _ => by unfold bestTo; split <;> simp [bestTo]
  | k + 2, _ => by
    have := bestTo_lt val zs (k + 1) (by omega)
    rw [bestTo]; split <;> omega

theorem trick_best (a : Option Addr) (len cap fid : Nat) (caps : Array Value) (zs : List Nat) (val : Nat → Int) (w : World) (hz : Byt w a len zs)
    (hv : ∀ (x : Nat) (w1 : World), x < 256 → Below w.heap.size w w1 → Calls Tryd.prog fid (#[.int .u8 (x : Int)] ++ caps) w1 fun e w' => e = .returned (.int .i64 (val x)) ∧ Below w1.heap.size w1 w')
    (hen : ∀ args w, (callFunc fid args).run Tryd.prog w = .ok (.enter fid args) w) :
    Calls Tryd.prog 65 #[.slice a len cap, .func (.func fid) #[] caps] w fun e w' => e = .returned (.int .i64 (bestTo val zs len)) ∧ Below w.heap.size w w' := by
  have HL := Lib.hid hz.length
  have hsm := hz.small
  have HV := Lib.hid hv
  clear hv
  go_enter Tryd.func65, Tryd.ntmps65
  go_wp2
  go_loopw [5, 6, 7, 10] (fun at' _ _ i wr => ∃ (k : Nat), k ≤ len ∧ i = .int .i64 k ∧ at' = .int .i64 (bestTo val zs k) ∧ Below w.heap.size w wr) (fun _ _ _ i _ => len - (intOf i).toNat)
  case atStart => exact ⟨0, Nat.zero_le _, rfl, rfl, Below.refl _ _⟩
  case round =>
    obtain ⟨k, hk, rfl, rfl, hB⟩ := hrel
    by_cases hlt : k < len
    · obtain ⟨b, off, rfl, hb, hcs⟩ := hz.at (by omega)
      have hc : wr.cell? ⟨b, off + k, none⟩ = some (.int .u8 ((zs.getD k 0 : Nat) : Int)) := (hB.cell (p := ⟨b, off + k, none⟩) hb).trans (hcs k hlt)
      have hat : bestTo val zs k < len := by
        rcases Nat.eq_zero_or_pos k with h | h
        · subst h; simpa [bestTo] using hlt
        · exact Nat.lt_trans (bestTo_lt val zs k h) hlt
      have hc2 : wr.cell? ⟨b, off + bestTo val zs k, none⟩ = some (.int .u8 ((zs.getD (bestTo val zs k) 0 : Nat) : Int)) := (hB.cell (p := ⟨b, off + bestTo val zs k, none⟩) hb).trans (hcs _ hat)
      have hb1 := hz.byte k
      have hb2 := hz.byte (bestTo val zs k)
      have HS : Hid (bestTo val zs (k + 1) = if val (zs.getD (bestTo val zs k) 0) < val (zs.getD k 0) then k else bestTo val zs k) := rfl
      generalize bestTo val zs k = m at *
      generalize zs.getD k 0 = c at *
      generalize zs.getD m 0 = d at *
      clear hcs
      have hr1 := fun dd os => cell_regrown hc dd os
      have hr2 := fun dd os => cell_regrown hc2 dd os
      go_wp2
      refine wp_region_quiet_below (by kernel_rfl) (by kernel_rfl) ?_
      repeat (quiet_step ((first | exact Calls.regrown_of (HV.out c _ hb1 (hB.trans ((below_regrown _ _ _).mono hB.size))) | exact Calls.regrown_of (HV.out d _ hb2 (hB.trans ((below_regrown _ _ _).mono hB.size))))))
      refine wpQuiet_nil ?_
      rintro _ ⟨p, rfl⟩
      have hb3 := below_regrown wr p.d p.os
      generalize grow (redrawn wr p.d) p.os = w1 at *
      by_cases hcmp : val d < val c
      all_goals
        go_wp2
        go_roundw
        case rel => exact ⟨k + 1, by omega, by go_num, by rw [HS.out]; simp [hcmp], hB.trans (hb3.mono hB.size)⟩
        case measure => simp [intOf]; omega
    · have hk' : k = len := by omega
      subst hk'
      go_wp2
      go_ret
      exact ⟨rfl, hB⟩

theorem cast_beq_zero (n : Nat) : ((n : Int) == 0) = (n == 0) := by rw [Bool.eq_iff_iff]; simp
theorem trick_right (a : Option Addr) (len cap : Nat) (zs : List Nat) (w : World) (hz : Byt w a len zs) :
    Calls Tryd.prog 60 #[.slice a len cap] w fun e w' => e = .returned (.bool (rightB zs)) ∧ w = w' := by
  have hl := hz.length
  by_cases h0 : len < 1
  · have e : rightB zs = false := by unfold rightB; rw [hl]; simp; omega
    rw [e]
    have h1 : decide ((len : Int) < 1) = true := by simp; omega
    clear hl
    go_enter Tryd.func60, Tryd.ntmps60
    go_wp2
    go_ret
    exact ⟨rfl, rfl⟩
  · by_cases h4 : 4 < len
    · have e : rightB zs = false := by unfold rightB; rw [hl]; simp; omega
      rw [e]
      clear hl
      go_enter Tryd.func60, Tryd.ntmps60
      go_wp2
      go_ret
      exact ⟨rfl, rfl⟩
    · have e : rightB zs = ((maskR 0 zs).2 == 0) := by
        unfold rightB; rw [hl]; simp; omega
      rw [e]
      clear hl e
      go_enter Tryd.func60, Tryd.ntmps60
      go_wp2_with (go_at_call 61; refine (card_mask _ _ _ zs _ hz).mono ?_; rintro e w' ⟨rfl, rfl⟩)
      go_ret
      exact ⟨by simp [cast_beq_zero], rfl⟩

theorem trick_strengths1 (c t l p q : Nat) (w : World) (hp : w.cell? ⟨p, 0, none⟩ = some (.int .u8 (t : Int))) (hq : w.cell? ⟨q, 0, none⟩ = some (.int .u8 (l : Int))) :
    Calls Tryd.prog 83 #[.int .u8 (c : Int), .pointer (some ⟨p, 0, none⟩), .pointer (some ⟨q, 0, none⟩)] w fun e w' => e = .returned (.int .i64 ((strength t l c : Nat) : Int)) ∧ w = w' := by
  have hr : rank c < 13 := by unfold rank; split <;> omega
  unfold strength
  generalize hs : suit c = s
  have HS := Lib.hid hs
  clear hs
  by_cases h1 : s = t
  · subst h1
    rw [if_pos rfl]
    go_enter Tryd.func83, Tryd.ntmps83
    go_wp2_with (first | (go_at_call 63; refine (card_suit _ _).mono ?_; rw [HS.out]; rintro e w' ⟨rfl, rfl⟩) | (go_at_call 84; refine (card_rank _ _).mono ?_; rintro e w' ⟨rfl, rfl⟩))
    go_ret
    exact ⟨by simp, rfl⟩
  · rw [if_neg h1]
    have h1' : ((s : Int) == t) = false := by simp; omega
    by_cases h2 : s = l
    · subst h2
      rw [if_pos rfl]
      go_enter Tryd.func83, Tryd.ntmps83
      go_wp2_with (first | (go_at_call 63; refine (card_suit _ _).mono ?_; rw [HS.out]; rintro e w' ⟨rfl, rfl⟩) | (go_at_call 84; refine (card_rank _ _).mono ?_; rintro e w' ⟨rfl, rfl⟩))
      go_ret
      exact ⟨by simp, rfl⟩
    · rw [if_neg h2]
      have h2' : ((s : Int) == l) = false := by simp; omega
      go_enter Tryd.func83, Tryd.ntmps83
      go_wp2_with (first | (go_at_call 63; refine (card_suit _ _).mono ?_; rw [HS.out]; rintro e w' ⟨rfl, rfl⟩) | (go_at_call 84; refine (card_rank _ _).mono ?_; rintro e w' ⟨rfl, rfl⟩))
      go_ret
      exact ⟨by simp, rfl⟩

/-- v is what trick.strengths makes at t and l. -/
def IsStr (w : World) (t l : Nat) (p q : Nat) : Prop := w.cell? ⟨p, 0, none⟩ = some (.int .u8 (t : Int)) ∧ w.cell? ⟨q, 0, none⟩ = some (.int .u8 (l : Int))

theorem trick_strengths (t l : Nat) (w : World) :
    Calls Tryd.prog 66 #[.int .u8 (t : Int), .int .u8 (l : Int)] w fun e w' =>
      e = .returned (.func (.func 83) #[] #[.pointer (some ⟨w.heap.size, 0, none⟩), .pointer (some ⟨w.heap.size + 1, 0, none⟩)]) ∧ w' = (w.alloc (.cells #[.int .u8 (t : Int)] 5)).alloc (.cells #[.int .u8 (l : Int)] 5) := by
  go_enter Tryd.func66, Tryd.ntmps66
  go_wp2
  go_ret
  exact ⟨rfl, rfl⟩
end Go.Proofs.YtginbellakkliaaDoor

/- Contracts of package trick over this seat's program: Strength, Winner, Seat. -/
namespace Go.Proofs.YtginbellakkliaaDoor
open Go.RowKit Go.Sort Go.Shelf

/-- trick.Strength -/
def strengthV (t l c : Nat) : Nat := if t ≤ 4 ∧ l ≤ 3 ∧ c < 52 then strength t l c else 0
/-- trick.Winner -/
def winnerV (t : Nat) (zs : List Nat) : Nat × Nat :=
  if 4 < t then (0, 2) else if rightB zs then (bestTo (fun c => (strength t (suit (zs.getD 0 0)) c : Int)) zs zs.length, 0) else (0, 110)
/-- trick.Seat -/
def seatV (t l : Nat) (zs : List Nat) : Nat × Nat :=
  if 3 < l then (0, 2) else if (winnerV t zs).2 = 0 then ((l + (winnerV t zs).1) % 4, 0) else (0, (winnerV t zs).2)

theorem strength_lt (t l c : Nat) : strength t l c < 27 := by
  have hr : rank c < 13 := by unfold rank; split <;> omega
  unfold strength; split <;> (try split) <;> omega
theorem rightB_length {zs : List Nat} (h : rightB zs = true) : 1 ≤ zs.length ∧ zs.length ≤ 4 := by
  simp [rightB] at h; omega
theorem winnerV_lt (t : Nat) (zs : List Nat) : (winnerV t zs).1 < 4 := by
  unfold winnerV
  split
  · simp
  · split
    · rename_i h
      have := rightB_length h
      have := bestTo_lt (fun c => (strength t (suit (zs.getD 0 0)) c : Int)) zs zs.length (by omega)
      simp only; omega
    · simp
theorem winnerV_ok {t : Nat} {zs : List Nat} (h : (winnerV t zs).2 = 0) : t ≤ 4 ∧ rightB zs = true ∧ winnerV t zs = (bestTo (fun c => (strength t (suit (zs.getD 0 0)) c : Int)) zs zs.length, 0) := by
  unfold winnerV at *
  split at h
  · simp at h
  · split at h
    · rename_i h1 h2; rw [if_neg h1, if_pos h2]; exact ⟨by omega, h2, rfl⟩
    · simp at h

theorem str_val (t l p q : Nat) (W : World) (hp : W.cell? ⟨p, 0, none⟩ = some (.int .u8 (t : Int))) (hq : W.cell? ⟨q, 0, none⟩ = some (.int .u8 (l : Int))) (x : Nat) (w1 : World) (_ : x < 256) (hb : Below W.heap.size W w1) :
    Calls Tryd.prog 83 (#[.int .u8 (x : Int)] ++ #[.pointer (some ⟨p, 0, none⟩), .pointer (some ⟨q, 0, none⟩)]) w1 fun e w' => e = .returned (.int .i64 ((strength t l x : Nat) : Int)) ∧ Below w1.heap.size w1 w' :=
  (trick_strengths1 x t l p q w1 ((hb.cell (p := ⟨p, 0, none⟩) (block_lt_of_cell hp)).trans hp) ((hb.cell (p := ⟨q, 0, none⟩) (block_lt_of_cell hq)).trans hq)).mono fun _ _ ⟨he, hw⟩ => ⟨he, hw ▸ Below.refl _ _⟩

theorem trick_Winner (t : Nat) (a : Option Addr) (len cap : Nat) (zs : List Nat) (w : World) (hz : Byt w a len zs) :
    Calls Tryd.prog 51 #[.int .u8 (t : Int), .slice a len cap] w fun e w' => e = .returned (.tuple #[.int .i64 ((winnerV t zs).1 : Int), .int .i64 ((winnerV t zs).2 : Int)]) ∧ Below w.heap.size w w' := by
  unfold winnerV
  by_cases h1 : 4 < t
  · rw [if_pos h1]
    go_enter Tryd.func51, Tryd.ntmps51
    go_wp2_with fail
    go_ret2
    exact ⟨rfl, Below.refl _ _⟩
  rw [if_neg h1]
  cases h2 : rightB zs
  · go_enter Tryd.func51, Tryd.ntmps51
    go_wp2_with (go_at_call 60; refine (trick_right _ _ _ zs _ hz).mono ?_; rw [h2]; rintro e w' ⟨rfl, rfl⟩)
    go_ret2
    exact ⟨rfl, Below.refl _ _⟩
  · have hlen := hz.length
    have hr := rightB_length h2
    rw [hlen] at hr
    simp only [if_true]
    rw [hlen]
    clear hlen
    obtain ⟨b, off, rfl, hb, hcs⟩ := hz.at (by omega)
    have hc := hcs 0 (by omega)
    clear hcs
    rw [Nat.add_zero] at hc
    have hpos : (0 : Int) < (len : Int) := by omega
    generalize hc0 : zs.getD 0 0 = c0 at *
    clear hc0
    go_enter Tryd.func51, Tryd.ntmps51
    go_wp2_with (first | (go_at_call 60; refine (trick_right _ _ _ zs _ hz).mono ?_; rw [h2]; rintro e w' ⟨rfl, rfl⟩) | (go_at_call 63; refine (card_suit _ _).mono ?_; rintro e w' ⟨rfl, rfl⟩) | (go_at_call 66; refine (trick_strengths _ _ _).mono ?_; rintro e w' ⟨rfl, rfl⟩))
    have hB : Below w.heap.size w ((w.alloc (Obj.cells #[Value.int IntKind.u8 (t : Int)] 5)).alloc (Obj.cells #[Value.int IntKind.u8 (suit c0 : Int)] 5)) := ((Below.refl _ _).alloc (Nat.le_refl _) _).alloc (by simp) _
    refine (trick_best _ _ _ _ _ zs (fun c => (strength t (suit c0) c : Int)) _ (hz.below (Nat.le_refl _) hB) (str_val t (suit c0) w.heap.size (w.heap.size + 1) _ (by simp [go_sem]) (by simp [go_sem])) (enters_of Tryd.func83 (by kernel_rfl) rfl)).mono ?_
    rintro e w' ⟨rfl, hb'⟩
    go_wp2
    go_ret2
    exact ⟨rfl, hB.trans (hb'.mono hB.size)⟩

theorem trick_Seat (t l : Nat) (a : Option Addr) (len cap : Nat) (zs : List Nat) (w : World) (hz : Byt w a len zs) :
    Calls Tryd.prog 32 #[.int .u8 (t : Int), .int .u8 (l : Int), .slice a len cap] w fun e w' => e = .returned (.tuple #[.int .u8 ((seatV t l zs).1 : Int), .int .i64 ((seatV t l zs).2 : Int)]) ∧ Below w.heap.size w w' := by
  unfold seatV
  have hw := winnerV_lt t zs
  generalize hx : winnerV t zs = x at *
  have HX := Lib.hid hx
  clear hx
  by_cases h1 : 3 < l
  · rw [if_pos h1]
    go_enter Tryd.func32, Tryd.ntmps32
    go_wp2_with fail
    go_ret2
    exact ⟨rfl, Below.refl _ _⟩
  rw [if_neg h1]
  obtain ⟨x, y⟩ := x
  dsimp only at hw ⊢
  by_cases h2 : y = 0
  · subst h2
    rw [if_pos rfl]
    go_enter Tryd.func32, Tryd.ntmps32
    go_wp2_with (go_at_call 51; refine (trick_Winner t _ _ _ zs _ hz).mono ?_; rw [HX.out]; rintro e w' ⟨rfl, hb'⟩)
    go_ret2
    refine ⟨?_, hb'⟩
    simp
  · rw [if_neg h2]
    have h2' : ((y : Int) != 0) = true := by rw [bne_iff_ne]; omega
    go_enter Tryd.func32, Tryd.ntmps32
    go_wp2_with (go_at_call 51; refine (trick_Winner t _ _ _ zs _ hz).mono ?_; rw [HX.out]; rintro e w' ⟨rfl, hb'⟩)
    go_ret2
    exact ⟨rfl, hb'⟩
end Go.Proofs.YtginbellakkliaaDoor
