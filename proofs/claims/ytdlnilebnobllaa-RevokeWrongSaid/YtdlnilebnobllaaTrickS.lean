/- Contracts of package trick over this seat's program: Strength, Winner, Seat. -/
import Derived.Test.YtdlnilebnobllaaTrick
import Derived.RangeFuncNested
import Derived.Shelf.Abstract
namespace Go.Proofs.Ytdlnilebnobllaa
open Go.RowKit Go.Sort Go.Shelf

/-- trick.Strength -/
def strengthV (t l c : Nat) : Nat := if t ≤ 4 ∧ l ≤ 3 ∧ c < 52 then strength t l c else 0
/-- trick.Winner -/
def winnerV (t : Nat) (zs : List Nat) : Nat × Nat :=
  if 4 < t then (0, 2) else if rightB zs then (bestTo (fun c => (strength t (suit (zs.getD 0 0)) c : Int)) zs zs.length, 0) else (0, 110)
/-- trick.Seat -/
def seatV (t l : Nat) (zs : List Nat) : Nat × Nat :=
  if 3 < l then (0, 2) else if (winnerV t zs).2 = 0 then ((l + (winnerV t zs).1) % 4, 0) else (0, (winnerV t zs).2)

theorem strength_lt (t l c : Nat) : strength t l c < 27 := by
  have hr : rank c < 13 := by unfold rank; split <;> omega
  unfold strength; split <;> (try split) <;> omega
theorem rightB_length {zs : List Nat} (h : rightB zs = true) : 1 ≤ zs.length ∧ zs.length ≤ 4 := by
  simp [rightB] at h; omega
theorem winnerV_lt (t : Nat) (zs : List Nat) : (winnerV t zs).1 < 4 := by
  unfold winnerV
  split
  · simp
  · split
    · rename_i h
      have := rightB_length h
      have := bestTo_lt (fun c => (strength t (suit (zs.getD 0 0)) c : Int)) zs zs.length (by omega)
      simp only; omega
    · simp
theorem winnerV_ok {t : Nat} {zs : List Nat} (h : (winnerV t zs).2 = 0) : t ≤ 4 ∧ rightB zs = true ∧ winnerV t zs = (bestTo (fun c => (strength t (suit (zs.getD 0 0)) c : Int)) zs zs.length, 0) := by
  unfold winnerV at *
  split at h
  · simp at h
  · split at h
    · rename_i h1 h2; rw [if_neg h1, if_pos h2]; exact ⟨by omega, h2, rfl⟩
    · simp at h

theorem str_val (t l p q : Nat) (W : World) (hp : W.cell? ⟨p, 0, none⟩ = some (.int .u8 (t : Int))) (hq : W.cell? ⟨q, 0, none⟩ = some (.int .u8 (l : Int))) (x : Nat) (w1 : World) (_ : x < 256) (hb : Below W.heap.size W w1) :
    Calls Try.prog 101 (#[.int .u8 (x : Int)] ++ #[.pointer (some ⟨p, 0, none⟩), .pointer (some ⟨q, 0, none⟩)]) w1 fun e w' => e = .returned (.int .i64 ((strength t l x : Nat) : Int)) ∧ Below w1.heap.size w1 w' :=
  (trick_strengths1 x t l p q w1 ((hb.cell (p := ⟨p, 0, none⟩) (block_lt_of_cell hp)).trans hp) ((hb.cell (p := ⟨q, 0, none⟩) (block_lt_of_cell hq)).trans hq)).mono fun _ _ ⟨he, hw⟩ => ⟨he, hw ▸ Below.refl _ _⟩

theorem trick_Winner (t : Nat) (a : Option Addr) (len cap : Nat) (zs : List Nat) (w : World) (hz : Byt w a len zs) :
    Calls Try.prog 73 #[.int .u8 (t : Int), .slice a len cap] w fun e w' => e = .returned (.tuple #[.int .i64 ((winnerV t zs).1 : Int), .int .i64 ((winnerV t zs).2 : Int)]) ∧ Below w.heap.size w w' := by
  unfold winnerV
  by_cases h1 : 4 < t
  · rw [if_pos h1]
    go_enter Try.func73, Try.ntmps73
    go_wp2_with fail
    go_ret2
    exact ⟨rfl, Below.refl _ _⟩
  rw [if_neg h1]
  cases h2 : rightB zs
  · go_enter Try.func73, Try.ntmps73
    go_wp2_with (go_at_call 96; refine (trick_right _ _ _ zs _ hz).mono ?_; rw [h2]; rintro e w' ⟨rfl, rfl⟩)
    go_ret2
    exact ⟨rfl, Below.refl _ _⟩
  · have hlen := hz.length
    have hr := rightB_length h2
    rw [hlen] at hr
    simp only [if_true]
    rw [hlen]
    clear hlen
    obtain ⟨b, off, rfl, hb, hcs⟩ := hz.at (by omega)
    have hc := hcs 0 (by omega)
    clear hcs
    rw [Nat.add_zero] at hc
    have hpos : (0 : Int) < (len : Int) := by omega
    generalize hc0 : zs.getD 0 0 = c0 at *
    clear hc0
    go_enter Try.func73, Try.ntmps73
    go_wp2_with (first | (go_at_call 96; refine (trick_right _ _ _ zs _ hz).mono ?_; rw [h2]; rintro e w' ⟨rfl, rfl⟩) | (go_at_call 99; refine (card_suit _ _).mono ?_; rintro e w' ⟨rfl, rfl⟩) | (go_at_call 98; refine (trick_strengths _ _ _).mono ?_; rintro e w' ⟨rfl, rfl⟩))
    have hB : Below w.heap.size w ((w.alloc (Obj.cells #[Value.int IntKind.u8 (t : Int)] 5)).alloc (Obj.cells #[Value.int IntKind.u8 (suit c0 : Int)] 5)) := ((Below.refl _ _).alloc (Nat.le_refl _) _).alloc (by simp) _
    refine (trick_best _ _ _ _ _ zs (fun c => (strength t (suit c0) c : Int)) _ (hz.below (Nat.le_refl _) hB) (str_val t (suit c0) w.heap.size (w.heap.size + 1) _ (by simp [go_sem]) (by simp [go_sem])) (enters_of Try.func101 (by kernel_rfl) rfl)).mono ?_
    rintro e w' ⟨rfl, hb'⟩
    go_wp2
    go_ret2
    exact ⟨rfl, hB.trans (hb'.mono hB.size)⟩

theorem trick_Seat (t l : Nat) (a : Option Addr) (len cap : Nat) (zs : List Nat) (w : World) (hz : Byt w a len zs) :
    Calls Try.prog 50 #[.int .u8 (t : Int), .int .u8 (l : Int), .slice a len cap] w fun e w' => e = .returned (.tuple #[.int .u8 ((seatV t l zs).1 : Int), .int .i64 ((seatV t l zs).2 : Int)]) ∧ Below w.heap.size w w' := by
  unfold seatV
  have hw := winnerV_lt t zs
  generalize hx : winnerV t zs = x at *
  have HX := Lib.hid hx
  clear hx
  by_cases h1 : 3 < l
  · rw [if_pos h1]
    go_enter Try.func50, Try.ntmps50
    go_wp2_with fail
    go_ret2
    exact ⟨rfl, Below.refl _ _⟩
  rw [if_neg h1]
  obtain ⟨x, y⟩ := x
  dsimp only at hw ⊢
  by_cases h2 : y = 0
  · subst h2
    rw [if_pos rfl]
    go_enter Try.func50, Try.ntmps50
    go_wp2_with (go_at_call 73; refine (trick_Winner t _ _ _ zs _ hz).mono ?_; rw [HX.out]; rintro e w' ⟨rfl, hb'⟩)
    go_ret2
    refine ⟨?_, hb'⟩
    simp
  · rw [if_neg h2]
    have h2' : ((y : Int) != 0) = true := by rw [bne_iff_ne]; omega
    go_enter Try.func50, Try.ntmps50
    go_wp2_with (go_at_call 73; refine (trick_Winner t _ _ _ zs _ hz).mono ?_; rw [HX.out]; rintro e w' ⟨rfl, hb'⟩)
    go_ret2
    exact ⟨rfl, hb'⟩
end Go.Proofs.Ytdlnilebnobllaa
