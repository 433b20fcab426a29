/- Plain: the reference's cells, and what is summed over them. -/
import Derived.Test.YtmkplfndbjcflaaRgC
import Derived.Test.YtmkplfndbjcflaaApl
namespace Go.Proofs.Ytmkplfndbjcflaa
open Cnt

theorem T1_Rr (hv : Nat → Nat) (G : (Nat → Nat) → Nat → Nat) (d i : Nat) (hi : i + (d + 1) = 4) (rest : Nat) (l f : Nat → Nat) (hf : Okf f i) :
    T1 f (Rr hv G (d + 1) rest l) = sumN (min rest 13 + 1 - least d rest) (fun c => T1 (jTo f (suitRow hv (3 - d) (least d rest + c)) 41) (Rr hv G d (rest - (least d rest + c)) (upd l (3 - d) (least d rest + c)))) := by
  have hid : 3 - d = i := by omega
  show T1 f (fun p => sumN (min rest 13 + 1 - least d rest) (fun c => sumN 11 (fun q => suitRow hv (3 - d) (least d rest + c) q * Rr hv G d (rest - (least d rest + c)) (upd l (3 - d) (least d rest + c)) (p + q)))) = _
  unfold T1
  rw [show (fun p => f p * sumN (min rest 13 + 1 - least d rest) (fun c => sumN 11 (fun q => suitRow hv (3 - d) (least d rest + c) q * Rr hv G d (rest - (least d rest + c)) (upd l (3 - d) (least d rest + c)) (p + q)))) = fun p => sumN (min rest 13 + 1 - least d rest) (fun c => sumN 11 (fun q => f p * suitRow hv (3 - d) (least d rest + c) q * Rr hv G d (rest - (least d rest + c)) (upd l (3 - d) (least d rest + c)) (p + q))) from funext fun p => by
    rw [← sumN_mul]
    refine sumN_congr fun c _ => ?_
    rw [← sumN_mul]
    exact sumN_congr fun q _ => by rw [Nat.mul_assoc]]
  rw [sumN_swap]
  refine sumN_congr fun c hc => ?_
  have hj := T1_jo f (suitRow hv (3 - d) (least d rest + c)) (Rr hv G d (rest - (least d rest + c)) (upd l (3 - d) (least d rest + c))) (fun p q hq hp => by rw [hid] at *; exact hf.room (by omega) p q hq hp) 41
  exact hj.symm
/-- a cell of the reference -/
structure Ce where
  p : Nat
  l : Nat → Nat
  m : Nat
def sumCe (G : (Nat → Nat) → Nat → Nat) (cs : List Ce) : Nat := (cs.map fun c => c.m * G c.l c.p).sum
theorem sumCe_append (G : (Nat → Nat) → Nat → Nat) (xs ys : List Ce) : sumCe G (xs ++ ys) = sumCe G xs + sumCe G ys := by
  unfold sumCe; rw [List.map_append, List.sum_append]
theorem sumCe_listTo (G : (Nat → Nat) → Nat → Nat) (h : Nat → List Ce) : ∀ n, sumCe G (listTo h n) = sumN n (fun i => sumCe G (h i))
  | 0 => rfl
  | n + 1 => by show sumCe G (listTo h n ++ h n) = _; rw [sumCe_append, sumCe_listTo G h n]; rfl
/-- the cells of one tuple of lengths -/
def flatC (l f : Nat → Nat) : Nat → List Ce := listTo fun p => if 0 < f p then [⟨p, l, f p⟩] else []
theorem flatC_succ (l f : Nat → Nat) (k : Nat) : flatC l f (k + 1) = flatC l f k ++ if 0 < f k then [⟨k, l, f k⟩] else [] := rfl
theorem flatC_sum (G : (Nat → Nat) → Nat → Nat) (l f : Nat → Nat) : sumCe G (flatC l f 41) = T1 f (G l) := by
  unfold flatC
  rw [sumCe_listTo]
  unfold T1
  refine sumN_congr fun p _ => ?_
  by_cases h : 0 < f p
  · rw [if_pos h]; simp [sumCe]
  · rw [if_neg h]
    have : f p = 0 := by omega
    rw [this, Nat.zero_mul]; rfl
def lens4 (a b c d : Nat) : Nat → Nat := upd (upd (upd (upd (fun _ => 0) 0 a) 1 b) 2 c) 3 d
/-- the spread of the first s suits -/
def cv (hv l : Nat → Nat) : Nat → Nat → Nat
  | 0 => sp0
  | s + 1 => jTo (cv hv l s) (suitRow hv s (l s)) 41
abbrev lR (n a b c : Nat) : Nat → Nat := lens4 a b c (n - a - b - c)
def L3 (hv : Nat → Nat) (n a b : Nat) : Nat → List Ce := listTo fun c => flatC (lR n a b c) (cv hv (lR n a b c) 4) 41
def L2 (hv : Nat → Nat) (n a : Nat) : Nat → List Ce := listTo fun b => L3 hv n a b (n - a - b + 1)
def L1 (hv : Nat → Nat) (n : Nat) : Nat → List Ce := listTo fun a => L2 hv n a (n - a + 1)
def ceOf (left n : Nat) : List Ce := L1 (hvAll left) n (n + 1)
theorem ce_hands (left nn : Nat) (hn : nn ≤ 13) (G : (Nat → Nat) → Nat → Nat) : sumCe G (ceOf left nn) = sumF (deck left) (fun x => if x.size = nn then G (lenF x) x.p else 0) := by
  have hg : ∀ i len, i < 4 → len ≤ 13 → sumN 11 (suitRow (hvAll left) i len) ≤ 20160 := fun i len hi hl => suitRow_sum left i len hi hl
  rw [← cells_hands left nn hn G, show cellsOf left nn = cells (hvAll left) 4 nn (fun _ => 0) sp0 from rfl, sumC_cells (hvAll left) G hg 4 0 rfl nn hn _ _ sp0_ok]
  unfold ceOf
  generalize hvAll left = hv at *
  have h1 : sumCe G (L1 hv nn (nn + 1)) = sumN (nn + 1) (fun a => sumN (nn - a + 1) (fun b => sumN (nn - a - b + 1) (fun c => T1 (cv hv (lR nn a b c) 4) (G (lR nn a b c))))) := by
    unfold L1
    rw [sumCe_listTo]
    refine sumN_congr fun a _ => ?_
    unfold L2
    rw [sumCe_listTo]
    refine sumN_congr fun b _ => ?_
    unfold L3
    rw [sumCe_listTo]
    exact sumN_congr fun c _ => flatC_sum _ _ _
  rw [h1, T1_Rr hv G 3 0 rfl nn _ _ sp0_ok, show min nn 13 + 1 - least 3 nn = nn + 1 by unfold least; simp; omega]
  refine sumN_congr fun a ha => ?_
  have k1 := sp0_ok.step (hg 0 a (by decide) (by omega))
  rw [show least 3 nn + a = a by unfold least; simp, T1_Rr hv G 2 1 rfl (nn - a) _ _ k1, show min (nn - a) 13 + 1 - least 2 (nn - a) = nn - a + 1 by unfold least; simp; omega]
  refine sumN_congr fun b hb => ?_
  have k2 := k1.step (hg 1 b (by decide) (by omega))
  rw [show least 2 (nn - a) + b = b by unfold least; simp, T1_Rr hv G 1 2 rfl (nn - a - b) _ _ k2, show min (nn - a - b) 13 + 1 - least 1 (nn - a - b) = nn - a - b + 1 by unfold least; simp; omega]
  refine sumN_congr fun c hc => ?_
  have k3 := k2.step (hg 2 c (by decide) (by omega))
  rw [show least 1 (nn - a - b) + c = c by unfold least; simp, T1_Rr hv G 0 3 rfl (nn - a - b - c) _ _ k3, show min (nn - a - b - c) 13 + 1 - least 0 (nn - a - b - c) = 1 by unfold least; simp; omega]
  have h2 : least 0 (nn - a - b - c) + 0 = nn - a - b - c := by unfold least; simp
  show _ = 0 + _
  dsimp only
  rw [h2, Nat.zero_add]
  rfl
/-- bounds -/
theorem listTo_len {α : Type} (h : Nat → List α) (B : Nat) : ∀ k, (∀ i, i < k → (h i).length ≤ B) → (listTo h k).length ≤ k * B
  | 0, _ => Nat.zero_le _
  | k + 1, hh => by
    show (listTo h k ++ h k).length ≤ _
    rw [List.length_append, Nat.succ_mul]
    exact Nat.add_le_add (listTo_len h B k fun i hi => hh i (by omega)) (hh k (by omega))
theorem flatC_len (l f : Nat → Nat) (k : Nat) : (flatC l f k).length ≤ k := by
  have := listTo_len (fun p => if 0 < f p then [(⟨p, l, f p⟩ : Ce)] else []) 1 k fun i _ => by
    split <;> simp
  rw [Nat.mul_one] at this
  exact this
theorem L3_len (hv : Nat → Nat) (n a b k : Nat) : (L3 hv n a b k).length ≤ k * 41 := listTo_len _ 41 k fun _ _ => flatC_len _ _ _
theorem L2_len (hv : Nat → Nat) (n a k : Nat) (hn : n ≤ 13) : (L2 hv n a k).length ≤ k * 574 := listTo_len _ 574 k fun _ _ => Nat.le_trans (L3_len _ _ _ _ _) (by omega)
theorem L1_len (hv : Nat → Nat) (n k : Nat) (hn : n ≤ 13) : (L1 hv n k).length ≤ k * 8036 := listTo_len _ 8036 k fun _ _ => Nat.le_trans (L2_len _ _ _ _ hn) (by omega)
theorem cv_ok (left n a b c : Nat) (hn : n ≤ 13) (h : a + b + c ≤ n) : ∀ s, s ≤ 4 → Okf (cv (hvAll left) (lR n a b c) s) s
  | 0, _ => sp0_ok
  | s + 1, hs => by
    refine (cv_ok left n a b c hn h s (by omega)).step (suitRow_sum left s _ (by omega) ?_)
    have : s = 0 ∨ s = 1 ∨ s = 2 ∨ s = 3 := by omega
    rcases this with rfl | rfl | rfl | rfl <;> simp [lens4, upd] <;> omega
theorem lR_le (n a b c s : Nat) (hn : n ≤ 13) (h : a + b + c ≤ n) (hs : s < 4) : lR n a b c s ≤ 13 := by
  have : s = 0 ∨ s = 1 ∨ s = 2 ∨ s = 3 := by omega
  rcases this with rfl | rfl | rfl | rfl <;> simp [lens4, upd] <;> omega
/-- the rounds that the reference leaves out change nothing in the table -/
theorem jAdd_cut (f g : Nat → Nat) (k q : Nat) (a : Nat → Nat) (hk : 41 ≤ k + q) : ∀ d, tab 41 (jAdd f g k (q + d) a) = tab 41 (jAdd f g k q a)
  | 0 => rfl
  | d + 1 => by
    rw [← jAdd_cut f g k q a hk d]
    refine tab_congr fun i hi => ?_
    show bump (jAdd f g k (q + d) a) (k + (q + d)) (f k * g (q + d)) i = _
    unfold bump
    rw [if_neg (by omega)]
abbrev encE (c : Ce) : List Value := [.int .i64 (c.p : Int), .int .i64 (c.l 0 : Int), .int .i64 (c.l 1 : Int), .int .i64 (c.l 2 : Int), .int .i64 (c.l 3 : Int), .int .i64 (c.m : Int)]
theorem encE_len (c : Ce) : (encE c).length = 6 := rfl
theorem encE_one (c : Ce) : ∀ u ∈ encE c, u.oneCell' = true := by
  intro u hu
  simp at hu
  rcases hu with rfl | rfl | rfl | rfl | rfl | rfl <;> rfl
theorem info_ce : (Try.prog.info? 92).map (fun i => (i.zero, i.size, i.bytes)) = some (some (.agg #[.int .i64 0, .int .i64 0, .int .i64 0, .int .i64 0, .int .i64 0, .int .i64 0]), 6, 48) := by kernel_rfl
abbrev OwnC (w : World) (base : Nat) (v : Value) (cs : List Ce) : Prop := Owns encE 6 92 w base v cs
open Go.RowKit Go.Sort in
/-- append(v, c), c one cell in a new block -/
theorem appC {w : World} {ops : Array Oper} {rest : List Oper} {o : Oper} {a : Act} {Q : Exit → Act → World → Prop} (hgd : o.guard = none) (s x : Operand)
    (ho : o.op = .call { callee := .builtin .append, args := #[s, x], argTypes := #[88, 88] })
    (base : Nat) (v : Value) (zs : List Ce) (c : Ce) (hs : a.eval s = v) (w0 : World) (hw : w = w0.alloc (.cells (encE c).toArray 92)) (hx : a.eval x = .slice (some ⟨w0.heap.size, 0, none⟩) 1 1) (hown : OwnC w0 base v zs)
    (hbytes : zs.length ≤ 10000000) (hbase : base ≤ w0.heap.size)
    (h : ∀ v' w', OwnC w' base v' (zs ++ [c]) → w0.grownBy w' v.ownBlock → (v'.ownBlock = v.ownBlock ∨ ∃ g, v'.ownBlock = some g ∧ w0.heap.size ≤ g) → wpList Try.prog ops Q rest (a.put o.dst v') w') : wpList Try.prog ops Q (o :: rest) a w := by
  subst hw
  refine appEO (enc := encE) (m := 6) hgd s x 88 ho Try.underlying88 (.agg #[.int .i64 0, .int .i64 0, .int .i64 0, .int .i64 0, .int .i64 0, .int .i64 0]) 48 info_ce (by decide) rfl (by decide) encE_one base v zs [c] hs (hown.alloc _) _ 1 1 hx rfl (by decide) (one_new w0 c _ rfl _) (by omega) (by simp; omega) ?_
  intro v' w' h1 h2 h3 h4
  refine h v' w' h1 (grownBy_trans (grownBy_alloc' ⟨rfl, rfl, rfl, Nat.le_refl _, fun _ _ _ => rfl⟩ _) h3) ?_
  rcases h4 with h4 | ⟨g, h4, h5⟩
  · exact .inl h4.1
  · exact .inr ⟨g, h4, by simp at h5; omega⟩
end Go.Proofs.Ytmkplfndbjcflaa
