/- Plain: the suits of a deck turned round. -/
import Derived.Test.YtmkplfndbjcflaaPlE
namespace Go.Proofs.Ytmkplfndbjcflaa
open Cnt

/-- a deck by the ranks of its four suits -/
def deck4 (a b c d : List Nat) : List Ft := a.map (ftC 0) ++ (b.map (ftC 1) ++ (c.map (ftC 2) ++ d.map (ftC 3)))
theorem deck_4 (L : Nat) : deck L = deck4 (rksOf (scards L 0)) (rksOf (scards L 1)) (rksOf (scards L 2)) (rksOf (scards L 3)) := rfl
/-- each suit becomes the next one -/
def rotF (x : Ft) : Ft := ⟨x.d, x.a, x.b, x.c, x.p⟩
theorem rotF_add (x y : Ft) : rotF (x.add y) = (rotF x).add (rotF y) := rfl
theorem sumF_rot (l : List Ft) : ∀ g : Ft → Nat, sumF (l.map rotF) g = sumF l (fun x => g (rotF x)) := by
  induction l with
  | nil => intro g; rfl
  | cons x l ih =>
    intro g
    show sumF (l.map rotF) g + sumF (l.map rotF) _ = _
    rw [ih, ih]
    rfl
theorem rot_map (s : Nat) (hs : s < 3) (l : List Nat) : (l.map (ftC s)).map rotF = l.map (ftC (s + 1)) := by
  rw [List.map_map]
  refine List.map_congr_left fun i _ => ?_
  have : s = 0 ∨ s = 1 ∨ s = 2 := by omega
  rcases this with rfl | rfl | rfl <;> rfl
theorem rot_map3 (l : List Nat) : (l.map (ftC 3)).map rotF = l.map (ftC 0) := by
  rw [List.map_map]
  exact List.map_congr_left fun i _ => rfl
theorem deck4_rot (a b c d : List Nat) (g : Ft → Nat) : sumF (deck4 d a b c) g = sumF (deck4 a b c d) (fun x => g (rotF x)) := by
  rw [← sumF_rot]
  refine sumF_perm ?_ g
  unfold deck4
  rw [List.map_append, List.map_append, List.map_append, rot_map 0 (by decide), rot_map 1 (by decide), rot_map 2 (by decide), rot_map3]
  refine List.perm_append_comm.trans ?_
  rw [List.append_assoc, List.append_assoc]
/-- turned k times -/
def rotN : Nat → Ft → Ft
  | 0, x => x
  | k + 1, x => rotF (rotN k x)
/-- the suits of a range turned k times -/
def Rg.rot1 (r : Rg) : Rg := ⟨r.p0, r.p1, r.d0, r.d1, r.a0, r.a1, r.b0, r.b1, r.c0, r.c1⟩
def Rg.rotK (k : Nat) (r : Rg) : Rg := if k = 0 then r else if k = 1 then r.rot1 else if k = 2 then r.rot1.rot1 else r.rot1.rot1.rot1
theorem rot1_long (r : Rg) (x : Ft) : r.rot1.long (lenF (rotF x)) = r.long (lenF x) := by
  simp only [Rg.long, Rg.longTo, Rg.lo, Rg.hi, Rg.rot1, lenF, rotF]
  simp
  generalize wthn (x.a : Int) r.a0 r.a1 = p
  generalize wthn (x.b : Int) r.b0 r.b1 = q
  generalize wthn (x.c : Int) r.c0 r.c1 = u
  generalize wthn (x.d : Int) r.d0 r.d1 = v
  cases p <;> cases q <;> cases u <;> cases v <;> rfl
theorem rot1_fit (ra : List Rg) (x : Ft) : fitP (ra.map Rg.rot1) (lenF (rotF x)) (rotF x).p = fitP ra (lenF x) x.p := by
  unfold fitP
  rw [List.any_map]
  congr 1
  funext r
  show (r.rot1.long (lenF (rotF x)) && wthn x.p r.p0 r.p1) = _
  rw [rot1_long]
theorem rotN_p (k : Nat) (x : Ft) : (rotN k x).p = x.p := by
  induction k with
  | zero => rfl
  | succ k ih => exact ih
theorem rotN_size (k : Nat) (x : Ft) : (rotN k x).size = x.size := by
  induction k with
  | zero => rfl
  | succ k ih =>
    show (rotF (rotN k x)).size = _
    rw [← ih]
    unfold rotF Ft.size
    simp only
    omega
theorem rot_fit (k : Nat) (hk : k < 4) (ra : List Rg) (x : Ft) : fitP (ra.map (Rg.rotK k)) (lenF (rotN k x)) x.p = fitP ra (lenF x) x.p := by
  have : k = 0 ∨ k = 1 ∨ k = 2 ∨ k = 3 := by omega
  have e0 : Rg.rotK 0 = id := rfl
  have e1 : Rg.rotK 1 = Rg.rot1 := rfl
  have e2 : Rg.rotK 2 = Rg.rot1 ∘ Rg.rot1 := rfl
  have e3 : Rg.rotK 3 = Rg.rot1 ∘ (Rg.rot1 ∘ Rg.rot1) := rfl
  rcases this with rfl | rfl | rfl | rfl
  · rw [e0, List.map_id]; rfl
  · rw [e1]; exact rot1_fit ra x
  · rw [e2, ← List.map_map]
    exact (rot1_fit (ra.map Rg.rot1) (rotF x)).trans (rot1_fit ra x)
  · rw [e3, ← List.map_map, ← List.map_map]
    exact ((rot1_fit ((ra.map Rg.rot1).map Rg.rot1) (rotF (rotF x))).trans (rot1_fit (ra.map Rg.rot1) (rotF x))).trans (rot1_fit ra x)
theorem deck_rot {L T k : Nat} (hk : k < 4) (h : ∀ s, s < 4 → scards T ((s + k) % 4) = scards L s) (g : Ft → Nat) : sumF (deck T) g = sumF (deck L) (fun x => g (rotN k x)) := by
  have h0 := h 0 (by decide)
  have h1 := h 1 (by decide)
  have h2 := h 2 (by decide)
  have h3 := h 3 (by decide)
  rw [deck_4, deck_4]
  have : k = 0 ∨ k = 1 ∨ k = 2 ∨ k = 3 := by omega
  rcases this with rfl | rfl | rfl | rfl
  · simp only [Nat.add_zero, show (0 : Nat) % 4 = 0 from rfl, show (1 : Nat) % 4 = 1 from rfl, show (2 : Nat) % 4 = 2 from rfl, show (3 : Nat) % 4 = 3 from rfl] at h0 h1 h2 h3
    rw [h0, h1, h2, h3]; rfl
  · simp only [show (0 + 1 : Nat) % 4 = 1 from rfl, show (1 + 1 : Nat) % 4 = 2 from rfl, show (2 + 1 : Nat) % 4 = 3 from rfl, show (3 + 1 : Nat) % 4 = 0 from rfl] at h0 h1 h2 h3
    rw [h0, h1, h2, h3, deck4_rot]; rfl
  · simp only [show (0 + 2 : Nat) % 4 = 2 from rfl, show (1 + 2 : Nat) % 4 = 3 from rfl, show (2 + 2 : Nat) % 4 = 0 from rfl, show (3 + 2 : Nat) % 4 = 1 from rfl] at h0 h1 h2 h3
    rw [h0, h1, h2, h3, deck4_rot, deck4_rot]; rfl
  · simp only [show (0 + 3 : Nat) % 4 = 3 from rfl, show (1 + 3 : Nat) % 4 = 0 from rfl, show (2 + 3 : Nat) % 4 = 1 from rfl, show (3 + 3 : Nat) % 4 = 2 from rfl] at h0 h1 h2 h3
    rw [h0, h1, h2, h3, deck4_rot, deck4_rot, deck4_rot]; rfl
theorem cnt_rot {L T k : Nat} (hk : k < 4) (h : ∀ s, s < 4 → scards T ((s + k) % 4) = scards L s) (n : Nat) (ra : List Rg) : cntF (deck T) n (fitP (ra.map (Rg.rotK k))) = cntF (deck L) n (fitP ra) := by
  unfold cntF
  rw [deck_rot hk h]
  refine sumF_congr fun x => ?_
  rw [rotN_size, rotN_p, rot_fit k hk]
theorem lenF_rot (k s : Nat) (hk : k < 4) (hs : s < 4) (x : Ft) : lenF (rotN k x) ((s + k) % 4) = lenF x s := by
  have h1 : k = 0 ∨ k = 1 ∨ k = 2 ∨ k = 3 := by omega
  have h2 : s = 0 ∨ s = 1 ∨ s = 2 ∨ s = 3 := by omega
  rcases h1 with rfl | rfl | rfl | rfl <;> rcases h2 with rfl | rfl | rfl | rfl <;> rfl
theorem ln_rot {L T k : Nat} (hk : k < 4) (h : ∀ s, s < 4 → scards T ((s + k) % 4) = scards L s) (n : Nat) (ra : List Rg) (s : Nat) (hs : s < 4) (i : Nat) : lnV T n (ra.map (Rg.rotK k)) ((s + k) % 4) i = lnV L n ra s i := by
  unfold lnV cntF
  rw [deck_rot hk h]
  refine sumF_congr fun x => ?_
  simp only [rotN_size, rotN_p, rot_fit k hk, lenF_rot k s hk hs]
end Go.Proofs.Ytmkplfndbjcflaa
