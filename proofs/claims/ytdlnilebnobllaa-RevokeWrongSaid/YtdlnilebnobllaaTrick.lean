/- Contracts of package trick over this seat's program: Right, strengths, best, Strength, Winner, Seat, Beats. -/
import Derived.Test.YtdlnilebnobllaaCard
import Derived.Lib.QuietBelow
import Derived.BigQuiet
namespace Go.Proofs.Ytdlnilebnobllaa
open Go.RowKit Go.Sort

/-- trick.Strength, the cards being right -/
def strength (t l c : Nat) : Nat := if suit c = t then 14 + rank c else if suit c = l then 1 + rank c else 0
/-- trick.Right -/
def rightB (zs : List Nat) : Bool := decide (1 ≤ zs.length) && decide (zs.length ≤ 4) && ((maskR 0 zs).2 == 0)
/-- trick.best, k rounds -/
def bestTo (val : Nat → Int) (zs : List Nat) : Nat → Nat
  | 0 => 0
  | k + 1 => if val (zs.getD (bestTo val zs k) 0) < val (zs.getD k 0) then k else bestTo val zs k

theorem bestTo_lt (val : Nat → Int) (zs : List Nat) : ∀ k, 0 < k → bestTo val zs k < k
  | 1, _ => by unfold bestTo; split <;> simp [bestTo]
  | k + 2, _ => by
    have := bestTo_lt val zs (k + 1) (by omega)
    rw [bestTo]; split <;> omega

theorem trick_best (a : Option Addr) (len cap fid : Nat) (caps : Array Value) (zs : List Nat) (val : Nat → Int) (w : World) (hz : Byt w a len zs)
    (hv : ∀ (x : Nat) (w1 : World), x < 256 → Below w.heap.size w w1 → Calls Try.prog fid (#[.int .u8 (x : Int)] ++ caps) w1 fun e w' => e = .returned (.int .i64 (val x)) ∧ Below w1.heap.size w1 w')
    (hen : ∀ args w, (callFunc fid args).run Try.prog w = .ok (.enter fid args) w) :
    Calls Try.prog 97 #[.slice a len cap, .func (.func fid) #[] caps] w fun e w' => e = .returned (.int .i64 (bestTo val zs len)) ∧ Below w.heap.size w w' := by
  have HL := Lib.hid hz.length
  have hsm := hz.small
  have HV := Lib.hid hv
  clear hv
  go_enter Try.func97, Try.ntmps97
  go_wp2
  go_loopw [5, 6, 7, 10] (fun at' _ _ i wr => ∃ (k : Nat), k ≤ len ∧ i = .int .i64 k ∧ at' = .int .i64 (bestTo val zs k) ∧ Below w.heap.size w wr) (fun _ _ _ i _ => len - (intOf i).toNat)
  case atStart => exact ⟨0, Nat.zero_le _, rfl, rfl, Below.refl _ _⟩
  case round =>
    obtain ⟨k, hk, rfl, rfl, hB⟩ := hrel
    by_cases hlt : k < len
    · obtain ⟨b, off, rfl, hb, hcs⟩ := hz.at (by omega)
      have hc : wr.cell? ⟨b, off + k, none⟩ = some (.int .u8 ((zs.getD k 0 : Nat) : Int)) := (hB.cell (p := ⟨b, off + k, none⟩) hb).trans (hcs k hlt)
      have hat : bestTo val zs k < len := by
        rcases Nat.eq_zero_or_pos k with h | h
        · subst h; simpa [bestTo] using hlt
        · exact Nat.lt_trans (bestTo_lt val zs k h) hlt
      have hc2 : wr.cell? ⟨b, off + bestTo val zs k, none⟩ = some (.int .u8 ((zs.getD (bestTo val zs k) 0 : Nat) : Int)) := (hB.cell (p := ⟨b, off + bestTo val zs k, none⟩) hb).trans (hcs _ hat)
      have hb1 := hz.byte k
      have hb2 := hz.byte (bestTo val zs k)
      have HS : Hid (bestTo val zs (k + 1) = if val (zs.getD (bestTo val zs k) 0) < val (zs.getD k 0) then k else bestTo val zs k) := rfl
      generalize bestTo val zs k = m at *
      generalize zs.getD k 0 = c at *
      generalize zs.getD m 0 = d at *
      clear hcs
      have hr1 := fun dd os => cell_regrown hc dd os
      have hr2 := fun dd os => cell_regrown hc2 dd os
      go_wp2
      refine wp_region_quiet_below (by kernel_rfl) (by kernel_rfl) ?_
      repeat (quiet_step ((first | exact Calls.regrown_of (HV.out c _ hb1 (hB.trans ((below_regrown _ _ _).mono hB.size))) | exact Calls.regrown_of (HV.out d _ hb2 (hB.trans ((below_regrown _ _ _).mono hB.size))))))
      refine wpQuiet_nil ?_
      rintro _ ⟨p, rfl⟩
      have hb3 := below_regrown wr p.d p.os
      generalize grow (redrawn wr p.d) p.os = w1 at *
      by_cases hcmp : val d < val c
      all_goals
        go_wp2
        go_roundw
        case rel => exact ⟨k + 1, by omega, by go_num, by rw [HS.out]; simp [hcmp], hB.trans (hb3.mono hB.size)⟩
        case measure => simp [intOf]; omega
    · have hk' : k = len := by omega
      subst hk'
      go_wp2
      go_ret
      exact ⟨rfl, hB⟩

theorem cast_beq_zero (n : Nat) : ((n : Int) == 0) = (n == 0) := by rw [Bool.eq_iff_iff]; simp
theorem trick_right (a : Option Addr) (len cap : Nat) (zs : List Nat) (w : World) (hz : Byt w a len zs) :
    Calls Try.prog 96 #[.slice a len cap] w fun e w' => e = .returned (.bool (rightB zs)) ∧ w = w' := by
  have hl := hz.length
  by_cases h0 : len < 1
  · have e : rightB zs = false := by unfold rightB; rw [hl]; simp; omega
    rw [e]
    have h1 : decide ((len : Int) < 1) = true := by simp; omega
    clear hl
    go_enter Try.func96, Try.ntmps96
    go_wp2
    go_ret
    exact ⟨rfl, rfl⟩
  · by_cases h4 : 4 < len
    · have e : rightB zs = false := by unfold rightB; rw [hl]; simp; omega
      rw [e]
      clear hl
      go_enter Try.func96, Try.ntmps96
      go_wp2
      go_ret
      exact ⟨rfl, rfl⟩
    · have e : rightB zs = ((maskR 0 zs).2 == 0) := by
        unfold rightB; rw [hl]; simp; omega
      rw [e]
      clear hl e
      go_enter Try.func96, Try.ntmps96
      go_wp2_with (go_at_call 100; refine (card_mask _ _ _ zs _ hz).mono ?_; rintro e w' ⟨rfl, rfl⟩)
      go_ret
      exact ⟨by simp [cast_beq_zero], rfl⟩

theorem trick_strengths1 (c t l p q : Nat) (w : World) (hp : w.cell? ⟨p, 0, none⟩ = some (.int .u8 (t : Int))) (hq : w.cell? ⟨q, 0, none⟩ = some (.int .u8 (l : Int))) :
    Calls Try.prog 101 #[.int .u8 (c : Int), .pointer (some ⟨p, 0, none⟩), .pointer (some ⟨q, 0, none⟩)] w fun e w' => e = .returned (.int .i64 ((strength t l c : Nat) : Int)) ∧ w = w' := by
  have hr : rank c < 13 := by unfold rank; split <;> omega
  unfold strength
  generalize hs : suit c = s
  have HS := Lib.hid hs
  clear hs
  by_cases h1 : s = t
  · subst h1
    rw [if_pos rfl]
    go_enter Try.func101, Try.ntmps101
    go_wp2_with (first | (go_at_call 99; refine (card_suit _ _).mono ?_; rw [HS.out]; rintro e w' ⟨rfl, rfl⟩) | (go_at_call 102; refine (card_rank _ _).mono ?_; rintro e w' ⟨rfl, rfl⟩))
    go_ret
    exact ⟨by simp, rfl⟩
  · rw [if_neg h1]
    have h1' : ((s : Int) == t) = false := by simp; omega
    by_cases h2 : s = l
    · subst h2
      rw [if_pos rfl]
      go_enter Try.func101, Try.ntmps101
      go_wp2_with (first | (go_at_call 99; refine (card_suit _ _).mono ?_; rw [HS.out]; rintro e w' ⟨rfl, rfl⟩) | (go_at_call 102; refine (card_rank _ _).mono ?_; rintro e w' ⟨rfl, rfl⟩))
      go_ret
      exact ⟨by simp, rfl⟩
    · rw [if_neg h2]
      have h2' : ((s : Int) == l) = false := by simp; omega
      go_enter Try.func101, Try.ntmps101
      go_wp2_with (first | (go_at_call 99; refine (card_suit _ _).mono ?_; rw [HS.out]; rintro e w' ⟨rfl, rfl⟩) | (go_at_call 102; refine (card_rank _ _).mono ?_; rintro e w' ⟨rfl, rfl⟩))
      go_ret
      exact ⟨by simp, rfl⟩

/-- v is what trick.strengths makes at t and l. -/
def IsStr (w : World) (t l : Nat) (p q : Nat) : Prop := w.cell? ⟨p, 0, none⟩ = some (.int .u8 (t : Int)) ∧ w.cell? ⟨q, 0, none⟩ = some (.int .u8 (l : Int))

theorem trick_strengths (t l : Nat) (w : World) :
    Calls Try.prog 98 #[.int .u8 (t : Int), .int .u8 (l : Int)] w fun e w' =>
      e = .returned (.func (.func 101) #[] #[.pointer (some ⟨w.heap.size, 0, none⟩), .pointer (some ⟨w.heap.size + 1, 0, none⟩)]) ∧ w' = (w.alloc (.cells #[.int .u8 (t : Int)] 5)).alloc (.cells #[.int .u8 (l : Int)] 5) := by
  go_enter Try.func98, Try.ntmps98
  go_wp2
  go_ret
  exact ⟨rfl, rfl⟩
end Go.Proofs.Ytdlnilebnobllaa
