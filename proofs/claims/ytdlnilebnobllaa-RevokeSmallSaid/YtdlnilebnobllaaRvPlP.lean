/- Plain: how finesselaw13.Played plays a record, and the deal of finesselaw13.Made. -/
import Derived.Test.YtdlnilebnobllaaRvMd1
namespace Go.Proofs.Ytdlnilebnobllaa
open Go.RowKit Go.Shelf Go.Sort

/-- the cards of a hand -/
def handTo (m : Nat) : Nat → List Nat
  | 0 => []
  | k + 1 => if m.testBit k then handTo m k ++ [k] else handTo m k
theorem handTo_mem (m : Nat) : ∀ k c, c ∈ handTo m k ↔ c < k ∧ m.testBit c = true
  | 0, c => by simp [handTo]
  | k + 1, c => by
    have ih := handTo_mem m k c
    unfold handTo
    split
    next h =>
      simp only [List.mem_append, List.mem_singleton, ih]
      constructor
      · rintro (⟨h1, h2⟩ | rfl)
        · exact ⟨by omega, h2⟩
        · exact ⟨by omega, h⟩
      · rintro ⟨h1, h2⟩
        by_cases he : c = k
        · exact .inr he
        · exact .inl ⟨by omega, h2⟩
    next h =>
      rw [ih]
      constructor
      · rintro ⟨h1, h2⟩; exact ⟨by omega, h2⟩
      · rintro ⟨h1, h2⟩
        refine ⟨?_, h2⟩
        by_cases he : c = k
        · subst he; exact absurd h2 h
        · omega
theorem handTo_le (m : Nat) : ∀ k, (handTo m k).length ≤ k
  | 0 => by simp [handTo]
  | k + 1 => by
    have := handTo_le m k
    unfold handTo; split <;> simp <;> omega
theorem getD_mem_of_lt {l : List Nat} {i : Nat} (h : i < l.length) : l.getD i 0 ∈ l := by
  rw [List.getD_eq_getElem?_getD, List.getElem?_eq_getElem h]; exact List.getElem_mem h
theorem getD_lt {l : List Nat} {n : Nat} (hn : 0 < n) (h : ∀ c ∈ l, c < n) (i : Nat) : l.getD i 0 < n := by
  by_cases hi : i < l.length
  · exact h _ (getD_mem_of_lt hi)
  · rw [List.getD_eq_getElem?_getD, List.getElem?_eq_none (by omega)]; simpa using hn
theorem legalTo_sub (hand led : List Nat) (k c : Nat) (h : c ∈ legalTo hand led k) : c ∈ hand := by
  unfold legalTo at h
  exact List.mem_of_mem_take (List.mem_filter.1 h).1
/-- the card that is chosen is one of the hand -/
theorem Sk.choose_mem (x : Sk) (turn : Nat) (hand led : List Nat) (h : hand ≠ []) : x.choose turn hand led ∈ hand := by
  unfold Sk.choose
  have hp : ∀ c ∈ x.pick turn hand led, c ∈ hand := by
    intro c hc; unfold Sk.pick at hc; split at hc
    · exact hc
    · exact legalTo_sub _ _ _ _ hc
  have h0 : 0 < (x.pick turn hand led).length := by
    unfold Sk.pick; split
    · exact List.length_pos_iff.2 h
    next hf =>
      apply List.length_pos_iff.2
      intro e; apply hf; unfold Sk.free; simp [e]
  exact hp _ (getD_mem_of_lt (Nat.mod_lt _ h0))

/-- a play under way -/
structure PlS where
  h : Nat → Nat
  ld : Nat
  zs : List Nat
def PlS.led (s : PlS) : List Nat := s.zs.drop (s.zs.length / 4 * 4)
def PlS.seat (s : PlS) : Nat := (s.ld + s.zs.length % 4) % 4
def PlS.hand (s : PlS) : List Nat := handTo (s.h s.seat) 52
def PlS.next (s : PlS) (t c : Nat) : PlS :=
  ⟨setH s.h s.seat (landn (s.h s.seat) (shl1 c)),
   if (s.zs.length + 1) % 4 = 0 then (s.ld + lawBest ((s.zs ++ [c]).drop (s.zs.length + 1 - 4)) t 4) % 4 else s.ld, s.zs ++ [c]⟩
def plN (x : Sk) (t : Nat) (s0 : PlS) : Nat → PlS
  | 0 => s0
  | k + 1 => (plN x t s0 k).next t (x.choose k (plN x t s0 k).hand (plN x t s0 k).led)
theorem plN_len (x : Sk) (t : Nat) (s0 : PlS) (h0 : s0.zs = []) : ∀ k, (plN x t s0 k).zs.length = k
  | 0 => by rw [plN, h0]; rfl
  | k + 1 => by rw [plN]; simp [PlS.next, plN_len x t s0 h0 k]
theorem W64.setH {h : Nat → Nat} (hw : ∀ j, W64 (h j)) (s v : Nat) (hv : W64 v) : ∀ j, W64 (setH h s v j) := by
  intro j; unfold Go.Proofs.Ytdlnilebnobllaa.setH; split
  · exact hv
  · exact hw j
theorem plN_w64 (x : Sk) (t : Nat) (s0 : PlS) (h : ∀ j, W64 (s0.h j)) : ∀ k j, W64 ((plN x t s0 k).h j)
  | 0, j => h j
  | k + 1, j => by
    rw [plN]
    exact W64.setH (plN_w64 x t s0 h k) _ _ (W64.landn (plN_w64 x t s0 h k _)) j
theorem plN_ld (x : Sk) (t : Nat) (s0 : PlS) (h : s0.ld < 4) : ∀ k, (plN x t s0 k).ld < 4
  | 0 => h
  | k + 1 => by
    rw [plN]; unfold PlS.next
    have := plN_ld x t s0 h k
    dsimp only
    split
    · omega
    · exact this
theorem plN_byte (x : Sk) (t : Nat) (s0 : PlS) (h0 : s0.zs = []) : ∀ k, (∀ j, j < k → (plN x t s0 j).hand ≠ []) → ∀ c ∈ (plN x t s0 k).zs, c < 52
  | 0, _, c, hc => by rw [plN, h0] at hc; cases hc
  | k + 1, hn, c, hc => by
    rw [plN] at hc
    simp only [PlS.next, List.mem_append, List.mem_singleton] at hc
    rcases hc with hc | rfl
    · exact plN_byte x t s0 h0 k (fun j hj => hn j (by omega)) c hc
    · exact ((handTo_mem _ _ _).1 (x.choose_mem k _ (plN x t s0 k).led (hn k (by omega)))).1

/-- a slice from a place on -/
theorem cut_run (a : Option Addr) (k cap l : Nat) (zs : List Nat) (w : World) (hl : l ≤ k) (hkc : k ≤ cap) (hb : Byt w a k zs) :
    ∃ a', (∀ wx, (Instr.slice 25 (.slice a k cap) (some (.int .i64 (l : Int))) none none).run Try.prog wx = .ok (.slice a' (k - l) (cap - l)) wx) ∧ Byt w a' (k - l) (zs.drop l) ∧ (∀ ad, a' = some ad → ∃ ad0, a = some ad0 ∧ ad.block = ad0.block) := by
  have hsz : ∀ wx, (sizeOf (Try.prog.elem 25)).run Try.prog wx = .ok 1 wx := by intro wx; kernel_rfl
  refine ⟨if cap = l then a else a.map (·.add (l * 1)), fun wx => ?_, ?_, ?_⟩
  · rw [run_slice_l wx 25 a k cap (by kernel_rfl) _ _ (by omega) (by omega), hsz]
    simp [Result.andThen, sliced]
  · refine ⟨by rw [List.length_drop, hb.length], by have := hb.small; omega, fun i => ?_, ?_⟩
    · have := hb.byte (l + i)
      rw [List.getD_eq_getElem?_getD] at this ⊢
      rwa [List.getElem?_drop]
    · rcases Nat.lt_or_ge l k with hlt | hge
      · right
        obtain ⟨b, off, rfl, hbs, hcs⟩ := hb.at (by omega)
        rw [if_neg (by omega : ¬ cap = l)]
        refine ⟨b, off + l, by simp [Addr.add], hbs, fun i hi => ?_⟩
        have := hcs (l + i) (by omega)
        rw [List.getD_eq_getElem?_getD] at this ⊢
        rw [List.getElem?_drop, Nat.add_assoc]
        exact this
      · left; omega
  · intro ad he
    cases a with
    | none => split at he <;> simp at he
    | some ad0 =>
      refine ⟨ad0, rfl, ?_⟩
      split at he
      · injection he with e; rw [e]
      · simp at he; rw [← he]; simp only [Addr.add]; split <;> rfl
end Go.Proofs.Ytdlnilebnobllaa
