/- Contract of trick.Playable over this seat's program. -/
import Derived.Test.YtginbellakkliaaDoorIter
import Derived.Test.YtginbellakkliaaDoorMLow
import Derived.Test.YtginbellakkliaaDoorMTrick
namespace Go.Proofs.YtginbellakkliaaDoor
open Go.RowKit Go.Shelf Go.Sort
attribute [local go_sem] Oper.semAt_some

/-- one round of the loop in trick.Playable -/
def folStep (s f : Nat) (c : Fin 64) : Nat := if suit c.val = s then lor f (shl1 c.val) else f
def follow (s : Nat) (l : List (Fin 64)) : Nat := l.foldl (folStep s) 0
theorem follow_snoc (s : Nat) (l : List (Fin 64)) (c : Fin 64) : follow s (l ++ [c]) = folStep s (follow s l) c := by simp [follow]
theorem folStep_w64 {s f : Nat} (h : W64 f) (c : Fin 64) : W64 (folStep s f c) := by unfold folStep; split; exact h.lor (W64.shl1 _); exact h
theorem follow_w64 (s : Nat) (l : List (Fin 64)) : W64 (follow s l) := by
  unfold follow
  have : ∀ (l : List (Fin 64)) f, W64 f → W64 (l.foldl (folStep s) f) := by
    intro l
    induction l with
    | nil => exact fun f h => h
    | cons c l ih => exact fun f h => ih _ (folStep_w64 h c)
  exact this l 0 W64.zero
/-- the cards that are left -/
def restV (hand : Nat) (zs : List Nat) : Nat := landn hand (maskR 0 zs).1
/-- of the cards that are left, those of the suit, or else all -/
def playLate (s rest : Nat) : Nat := if follow s (bitsList rest) ≠ 0 then follow s (bitsList rest) else rest
/-- trick.Playable -/
def playableV (hand : Nat) (zs : List Nat) : Nat × Nat :=
  if 4503599627370496 ≤ hand then (0, 2) else if zs.length = 0 then (hand, 0) else if rightB zs then
    (if zs.length = 4 then (0, 111) else
      (playLate (suit (zs.getD 0 0)) (restV hand zs), 0))
  else (0, 110)

theorem maskR_w64 : ∀ (zs : List Nat) (m : Nat), W64 m → W64 (maskR m zs).1
  | [], m, h => h
  | c :: cs, m, h => by
    unfold maskR
    split
    · split
      · exact W64.zero
      · exact maskR_w64 cs _ (h.lor (W64.shl1 c))
    · exact W64.zero

theorem play_early (hand : Nat) (a : Option Addr) (len cap : Nat) (zs : List Nat) (w : World) (hz : Byt w a len zs) (_hh : W64 hand) (he : ¬ (hand < 4503599627370496 ∧ 1 ≤ len ∧ len ≤ 3 ∧ rightB zs = true)) :
    Calls Tryd.prog 43 #[.int .u64 (hand : Int), .slice a len cap] w fun e w' => e = .returned (.tuple #[.int .u64 ((playableV hand zs).1 : Int), .int .i64 ((playableV hand zs).2 : Int)]) ∧ Below w.heap.size w w' := by
  unfold playableV
  rw [hz.length]
  have hBa : ∀ o, Below w.heap.size w (w.alloc o) := fun o => (Below.refl _ _).alloc (Nat.le_refl _) _
  have HBa := Lib.hid hBa
  clear hBa
  by_cases h1 : 4503599627370496 ≤ hand
  · rw [if_pos h1]
    have h1' : ((hand : Int) / 4503599627370496 != 0) = true := by rw [bne_iff_ne]; omega
    go_enter Tryd.func43, Tryd.ntmps43
    go_wp2_with fail
    go_ret2
    exact ⟨rfl, HBa.out _⟩
  rw [if_neg h1]
  have h1' : ((hand : Int) / 4503599627370496 != 0) = false := by rw [bne_eq_false_iff_eq]; omega
  by_cases h2 : len = 0
  · rw [if_pos h2]
    subst h2
    go_enter Tryd.func43, Tryd.ntmps43
    go_wp2_with fail
    go_ret2
    exact ⟨rfl, HBa.out _⟩
  rw [if_neg h2]
  have h2' : ((len : Int) == 0) = false := by simp; omega
  cases h3 : rightB zs
  · go_enter Tryd.func43, Tryd.ntmps43
    go_wp2_with (go_at_call 60; refine (trick_right _ _ _ zs _ (hz.below (Nat.le_refl _) (HBa.out _))).mono ?_; rw [h3]; rintro e w' ⟨rfl, rfl⟩)
    go_ret2
    exact ⟨rfl, HBa.out _⟩
  · have hr := rightB_length h3
    rw [hz.length] at hr
    have h4 : len = 4 := by
      rw [h3] at he
      have : ¬ (hand < 4503599627370496 ∧ 1 ≤ len ∧ len ≤ 3) := fun ⟨a, b, c⟩ => he ⟨a, b, c, rfl⟩
      omega
    subst h4
    go_enter Tryd.func43, Tryd.ntmps43
    go_wp2_with (go_at_call 60; refine (trick_right _ _ _ zs _ (hz.below (Nat.le_refl _) (HBa.out _))).mono ?_; rw [h3]; rintro e w' ⟨rfl, rfl⟩)
    go_ret2
    exact ⟨rfl, HBa.out _⟩
end Go.Proofs.YtginbellakkliaaDoor
