/- PlH, RgD, PlI, RgE0, RgF0 in one text. -/
import Derived.Test.YtikdkhiehfccpaaMRga
import Derived.Test.YtikdkhiehfccpaaApl
import Derived.Deep.AppendLies
import Derived.Deep.RegionLaw
import Derived.Deep.CutRange
import Derived.Test.YtikdkhiehfccpaaAgX0
import Derived.Laws.StructEq
import Derived.ChangeKeysEq

/- Plain: the reference's cells, and what is summed over them. -/
namespace Go.Proofs.Ytikdkhiehfccpaa
open Cnt

theorem T1_Rr (hv : Nat → Nat) (G : (Nat → Nat) → Nat → Nat) (d i : Nat) (hi : i + (d + 1) = 4) (rest : Nat) (l f : Nat → Nat) (hf : Okf f i) :
    T1 f (Rr hv G (d + 1) rest l) = sumN (min rest 13 + 1 - least d rest) (fun c => T1 (jTo f (suitRow hv (3 - d) (least d rest + c)) 41) (Rr hv G d (rest - (least d rest + c)) (upd l (3 - d) (least d rest + c)))) := by
  have hid : 3 - d = i := by omega
  show T1 f (fun p => sumN (min rest 13 + 1 - least d rest) (fun c => sumN 11 (fun q => suitRow hv (3 - d) (least d rest + c) q * Rr hv G d (rest - (least d rest + c)) (upd l (3 - d) (least d rest + c)) (p + q)))) = _
  unfold T1
  rw [show (fun p => f p * sumN (min rest 13 + 1 - least d rest) (fun c => sumN 11 (fun q => suitRow hv (3 - d) (least d rest + c) q * Rr hv G d (rest - (least d rest + c)) (upd l (3 - d) (least d rest + c)) (p + q)))) = fun p => sumN (min rest 13 + 1 - least d rest) (fun c => sumN 11 (fun q => f p * suitRow hv (3 - d) (least d rest + c) q * Rr hv G d (rest - (least d rest + c)) (upd l (3 - d) (least d rest + c)) (p + q))) from funext fun p => by
    rw [← sumN_mul]
    refine sumN_congr fun c _ => ?_
    rw [← sumN_mul]
    exact sumN_congr fun q _ => by rw [Nat.mul_assoc]]
  rw [sumN_swap]
  refine sumN_congr fun c hc => ?_
  have hj := T1_jo f (suitRow hv (3 - d) (least d rest + c)) (Rr hv G d (rest - (least d rest + c)) (upd l (3 - d) (least d rest + c))) (fun p q hq hp => by rw [hid] at *; exact hf.room (by omega) p q hq hp) 41
  exact hj.symm
/-- a cell of the reference -/
structure Ce where
  p : Nat
  l : Nat → Nat
  m : Nat
def sumCe (G : (Nat → Nat) → Nat → Nat) (cs : List Ce) : Nat := (cs.map fun c => c.m * G c.l c.p).sum
theorem sumCe_append (G : (Nat → Nat) → Nat → Nat) (xs ys : List Ce) : sumCe G (xs ++ ys) = sumCe G xs + sumCe G ys := by
  unfold sumCe; rw [List.map_append, List.sum_append]
theorem sumCe_listTo (G : (Nat → Nat) → Nat → Nat) (h : Nat → List Ce) : ∀ n, sumCe G (listTo h n) = sumN n (fun i => sumCe G (h i))
  | 0 => rfl
  | n + 1 => by show sumCe G (listTo h n ++ h n) = _; rw [sumCe_append, sumCe_listTo G h n]; rfl
/-- the cells of one tuple of lengths -/
def flatC (l f : Nat → Nat) : Nat → List Ce := listTo fun p => if 0 < f p then [⟨p, l, f p⟩] else []
theorem flatC_succ (l f : Nat → Nat) (k : Nat) : flatC l f (k + 1) = flatC l f k ++ if 0 < f k then [⟨k, l, f k⟩] else [] := rfl
theorem flatC_sum (G : (Nat → Nat) → Nat → Nat) (l f : Nat → Nat) : sumCe G (flatC l f 41) = T1 f (G l) := by
  unfold flatC
  rw [sumCe_listTo]
  unfold T1
  refine sumN_congr fun p _ => ?_
  by_cases h : 0 < f p
  · rw [if_pos h]; simp [sumCe]
  · rw [if_neg h]
    have : f p = 0 := by omega
    rw [this, Nat.zero_mul]; rfl
def lens4 (a b c d : Nat) : Nat → Nat := upd (upd (upd (upd (fun _ => 0) 0 a) 1 b) 2 c) 3 d
/-- the spread of the first s suits -/
def cv (hv l : Nat → Nat) : Nat → Nat → Nat
  | 0 => sp0
  | s + 1 => jTo (cv hv l s) (suitRow hv s (l s)) 41
abbrev lR (n a b c : Nat) : Nat → Nat := lens4 a b c (n - a - b - c)
def L3 (hv : Nat → Nat) (n a b : Nat) : Nat → List Ce := listTo fun c => flatC (lR n a b c) (cv hv (lR n a b c) 4) 41
def L2 (hv : Nat → Nat) (n a : Nat) : Nat → List Ce := listTo fun b => L3 hv n a b (n - a - b + 1)
def L1 (hv : Nat → Nat) (n : Nat) : Nat → List Ce := listTo fun a => L2 hv n a (n - a + 1)
def ceOf (left n : Nat) : List Ce := L1 (hvAll left) n (n + 1)
theorem ce_hands (left nn : Nat) (hn : nn ≤ 13) (G : (Nat → Nat) → Nat → Nat) : sumCe G (ceOf left nn) = sumF (deck left) (fun x => if x.size = nn then G (lenF x) x.p else 0) := by
  have hg : ∀ i len, i < 4 → len ≤ 13 → sumN 11 (suitRow (hvAll left) i len) ≤ 20160 := fun i len hi hl => suitRow_sum left i len hi hl
  rw [← cells_hands left nn hn G, show cellsOf left nn = cells (hvAll left) 4 nn (fun _ => 0) sp0 from rfl, sumC_cells (hvAll left) G hg 4 0 rfl nn hn _ _ sp0_ok]
  unfold ceOf
  generalize hvAll left = hv at *
  have h1 : sumCe G (L1 hv nn (nn + 1)) = sumN (nn + 1) (fun a => sumN (nn - a + 1) (fun b => sumN (nn - a - b + 1) (fun c => T1 (cv hv (lR nn a b c) 4) (G (lR nn a b c))))) := by
    unfold L1
    rw [sumCe_listTo]
    refine sumN_congr fun a _ => ?_
    unfold L2
    rw [sumCe_listTo]
    refine sumN_congr fun b _ => ?_
    unfold L3
    rw [sumCe_listTo]
    exact sumN_congr fun c _ => flatC_sum _ _ _
  rw [h1, T1_Rr hv G 3 0 rfl nn _ _ sp0_ok, show min nn 13 + 1 - least 3 nn = nn + 1 by unfold least; simp; omega]
  refine sumN_congr fun a ha => ?_
  have k1 := sp0_ok.step (hg 0 a (by decide) (by omega))
  rw [show least 3 nn + a = a by unfold least; simp, T1_Rr hv G 2 1 rfl (nn - a) _ _ k1, show min (nn - a) 13 + 1 - least 2 (nn - a) = nn - a + 1 by unfold least; simp; omega]
  refine sumN_congr fun b hb => ?_
  have k2 := k1.step (hg 1 b (by decide) (by omega))
  rw [show least 2 (nn - a) + b = b by unfold least; simp, T1_Rr hv G 1 2 rfl (nn - a - b) _ _ k2, show min (nn - a - b) 13 + 1 - least 1 (nn - a - b) = nn - a - b + 1 by unfold least; simp; omega]
  refine sumN_congr fun c hc => ?_
  have k3 := k2.step (hg 2 c (by decide) (by omega))
  rw [show least 1 (nn - a - b) + c = c by unfold least; simp, T1_Rr hv G 0 3 rfl (nn - a - b - c) _ _ k3, show min (nn - a - b - c) 13 + 1 - least 0 (nn - a - b - c) = 1 by unfold least; simp; omega]
  have h2 : least 0 (nn - a - b - c) + 0 = nn - a - b - c := by unfold least; simp
  show _ = 0 + _
  dsimp only
  rw [h2, Nat.zero_add]
  rfl
/-- bounds -/
theorem listTo_len {α : Type} (h : Nat → List α) (B : Nat) : ∀ k, (∀ i, i < k → (h i).length ≤ B) → (listTo h k).length ≤ k * B
  | 0, _ => Nat.zero_le _
  | k + 1, hh => by
    show (listTo h k ++ h k).length ≤ _
    rw [List.length_append, Nat.succ_mul]
    exact Nat.add_le_add (listTo_len h B k fun i hi => hh i (by omega)) (hh k (by omega))
theorem flatC_len (l f : Nat → Nat) (k : Nat) : (flatC l f k).length ≤ k := by
  have := listTo_len (fun p => if 0 < f p then [(⟨p, l, f p⟩ : Ce)] else []) 1 k fun i _ => by
    split <;> simp
  rw [Nat.mul_one] at this
  exact this
theorem L3_len (hv : Nat → Nat) (n a b k : Nat) : (L3 hv n a b k).length ≤ k * 41 := listTo_len _ 41 k fun _ _ => flatC_len _ _ _
theorem L2_len (hv : Nat → Nat) (n a k : Nat) (hn : n ≤ 13) : (L2 hv n a k).length ≤ k * 574 := listTo_len _ 574 k fun _ _ => Nat.le_trans (L3_len _ _ _ _ _) (by omega)
theorem L1_len (hv : Nat → Nat) (n k : Nat) (hn : n ≤ 13) : (L1 hv n k).length ≤ k * 8036 := listTo_len _ 8036 k fun _ _ => Nat.le_trans (L2_len _ _ _ _ hn) (by omega)
theorem cv_ok (left n a b c : Nat) (hn : n ≤ 13) (h : a + b + c ≤ n) : ∀ s, s ≤ 4 → Okf (cv (hvAll left) (lR n a b c) s) s
  | 0, _ => sp0_ok
  | s + 1, hs => by
    refine (cv_ok left n a b c hn h s (by omega)).step (suitRow_sum left s _ (by omega) ?_)
    have : s = 0 ∨ s = 1 ∨ s = 2 ∨ s = 3 := by omega
    rcases this with rfl | rfl | rfl | rfl <;> simp [lens4, upd] <;> omega
theorem lR_le (n a b c s : Nat) (hn : n ≤ 13) (h : a + b + c ≤ n) (hs : s < 4) : lR n a b c s ≤ 13 := by
  have : s = 0 ∨ s = 1 ∨ s = 2 ∨ s = 3 := by omega
  rcases this with rfl | rfl | rfl | rfl <;> simp [lens4, upd] <;> omega
/-- the rounds that the reference leaves out change nothing in the table -/
theorem jAdd_cut (f g : Nat → Nat) (k q : Nat) (a : Nat → Nat) (hk : 41 ≤ k + q) : ∀ d, tab 41 (jAdd f g k (q + d) a) = tab 41 (jAdd f g k q a)
  | 0 => rfl
  | d + 1 => by
    rw [← jAdd_cut f g k q a hk d]
    refine tab_congr fun i hi => ?_
    show bump (jAdd f g k (q + d) a) (k + (q + d)) (f k * g (q + d)) i = _
    unfold bump
    rw [if_neg (by omega)]
abbrev encE (c : Ce) : List Value := [.int .i64 (c.p : Int), .int .i64 (c.l 0 : Int), .int .i64 (c.l 1 : Int), .int .i64 (c.l 2 : Int), .int .i64 (c.l 3 : Int), .int .i64 (c.m : Int)]
theorem encE_len (c : Ce) : (encE c).length = 6 := rfl
theorem encE_one (c : Ce) : ∀ u ∈ encE c, u.oneCell' = true := by
  intro u hu
  simp at hu
  rcases hu with rfl | rfl | rfl | rfl | rfl | rfl <;> rfl
theorem info_ce : (Try.prog.info? 126).map (fun i => (i.zero, i.size, i.bytes)) = some (some (.agg #[.int .i64 0, .int .i64 0, .int .i64 0, .int .i64 0, .int .i64 0, .int .i64 0]), 6, 48) := by kernel_rfl
abbrev OwnC (w : World) (base : Nat) (v : Value) (cs : List Ce) : Prop := Owns encE 6 126 w base v cs
open Go.RowKit Go.Sort in
/-- append(v, c), c one cell in a new block -/
theorem appC {w : World} {ops : Array Oper} {rest : List Oper} {o : Oper} {a : Act} {Q : Exit → Act → World → Prop} (hgd : o.guard = none) (s x : Operand)
    (ho : o.op = .call { callee := .builtin .append, args := #[s, x], argTypes := #[99, 99] })
    (base : Nat) (v : Value) (zs : List Ce) (c : Ce) (hs : a.eval s = v) (w0 : World) (hw : w = w0.alloc (.cells (encE c).toArray 126)) (hx : a.eval x = .slice (some ⟨w0.heap.size, 0, none⟩) 1 1) (hown : OwnC w0 base v zs)
    (hbytes : zs.length ≤ 10000000) (hbase : base ≤ w0.heap.size)
    (h : ∀ v' w', OwnC w' base v' (zs ++ [c]) → w0.grownBy w' v.ownBlock → (v'.ownBlock = v.ownBlock ∨ ∃ g, v'.ownBlock = some g ∧ w0.heap.size ≤ g) → wpList Try.prog ops Q rest (a.put o.dst v') w') : wpList Try.prog ops Q (o :: rest) a w := by
  subst hw
  refine appEO (enc := encE) (m := 6) hgd s x 99 ho Try.underlying99 (.agg #[.int .i64 0, .int .i64 0, .int .i64 0, .int .i64 0, .int .i64 0, .int .i64 0]) 48 info_ce (by decide) rfl (by decide) encE_one base v zs [c] hs (hown.alloc _) _ 1 1 hx rfl (by decide) (one_new w0 c _ rfl _) (by omega) (by simp; omega) ?_
  intro v' w' h1 h2 h3 h4
  refine h v' w' h1 (grownBy_trans (grownBy_alloc' ⟨rfl, rfl, rfl, Nat.le_refl _, fun _ _ _ => rfl⟩ _) h3) ?_
  rcases h4 with h4 | ⟨g, h4, h5⟩
  · exact .inl h4.1
  · exact .inr ⟨g, h4, by simp at h5; omega⟩
end Go.Proofs.Ytikdkhiehfccpaa

/- The reference of chapter 40: Cells. -/
namespace Go.Proofs.Ytikdkhiehfccpaa
open Go.RowKit Go.Sort Go.Shelf Cnt

theorem zero110 : ∀ w : World, (zeroValue 122).run Try.prog w = .ok (.agg (tab 616 fun _ => 0)) w := by
  have h : (Try.prog.info? 122).map (fun i => (i.zero, i.size)) = some (some (.agg (tab 616 fun _ => 0)), 616) := by kernel_rfl
  cases hq : Try.prog.info? 122 with
  | none => simp [hq] at h
  | some i =>
    simp [hq] at h
    intro w
    simp [zeroValue, typeInfo, hq, h.1]
theorem zero82 : ∀ w : World, (zeroValue 124).run Try.prog w = .ok (.agg (tab 41 fun _ => 0)) w := by
  have h : (Try.prog.info? 124).map (fun i => (i.zero, i.size)) = some (some (.agg (tab 41 fun _ => 0)), 41) := by kernel_rfl
  cases hq : Try.prog.info? 124 with
  | none => simp [hq] at h
  | some i =>
    simp [hq] at h
    intro w
    simp [zeroValue, typeInfo, hq, h.1]
theorem size82 : (Try.prog.info? 124).map (·.size) = some 41 := by kernel_rfl
theorem under82 : Try.prog.underlying 124 = some (.array 41 3) := by kernel_rfl
theorem sp0_start : (tab 41 fun _ => 0).setIfInBounds 0 (Value.int .i64 1) = tab 41 sp0 := by
  have := tab_set 41 (fun _ => 0) 0 1
  refine Eq.trans ?_ (this.trans (tab_congr fun i _ => ?_))
  · rfl
  · unfold bump sp0; split <;> rfl
theorem suit_cell (hv : Nat → Nat) (s len q : Nat) (hs : s < 4) (hl : len < 14) (hq : q < 11) : (tab 616 hv)[s * 154 + len * 11 + q]? = some (.int .i64 ((suitRow hv s len q : Nat) : Int)) := tab_get 616 hv _ (by omega)

theorem row_new_at' (w : World) (cs : List Value) (t : TypeId) : ∀ j u, cs[j]? = some u → (w.alloc (.cells cs.toArray t)).cell? ((⟨w.heap.size, 0, none⟩ : Addr).add j) = some u := by
  intro j u hu
  have h := (Row.new w t cs.toArray).cell j
  rw [List.getElem?_toArray, hu] at h
  rw [← h]
  unfold Addr.add
  split
  · rename_i h0; have h0 : j = 0 := by simpa using h0
    subst h0; rfl
  · simp
theorem grown_cell {wr w2 : World} {cs : Array Value} {t : TypeId} {u7 : Value} {bw bl g cp : Nat} {zs : List Ce} {c : Ce} (hO : OwnC wr (bw + 1) u7 zs)
    (h2 : w2.ownsRow (bw + 1) 126 6 (.slice (some ⟨g, 0, none⟩) (zs.length + 1) cp) (zs.length + 1) (zs.flatMap encE ++ encE c))
    (h3 : (wr.drew.alloc (.cells cs t)).grownBy w2 u7.ownBlock) (h4 : u7.ownBlock = some g ∨ g = (wr.drew.alloc (.cells cs t)).heap.size) (hlt : bl + 1 < wr.heap.size)
    (hvb : ∀ g, u7.ownBlock = some g → g ≠ bl ∧ g ≠ bl + 1) (hbb : bw + 1 ≤ wr.heap.size) :
    OwnC w2 (bw + 1) (.slice (some ⟨g, 0, none⟩) (zs.length + 1) cp) (zs ++ [c]) ∧ (∀ g', (Value.slice (some ⟨g, 0, none⟩) (zs.length + 1) cp).ownBlock = some g' → g' ≠ bl ∧ g' ≠ bl + 1) ∧ bl + 1 < w2.heap.size ∧ Below bw wr w2 ∧
      ∀ k, (k = bw ∨ k = bl ∨ k = bl + 1) → w2.heap[k]? = wr.heap[k]? := by
  have hsz : (wr.drew.alloc (.cells cs t)).heap.size = wr.heap.size + 1 := by rw [World.size_alloc]; rfl
  rw [hsz] at h4
  have hown := fun k hk => (World.ownsRow.lt hO.2 k hk)
  have hb1 : Below (bw + 1) wr (wr.drew.alloc (.cells cs t)) := (Below.refl _ wr).drew.alloc (show bw + 1 ≤ wr.drew.heap.size from hbb) _
  have hb2 : Below (bw + 1) wr w2 := hb1.grown h3 (by rw [hsz]; omega) (fun k hk => (hown k hk).1)
  have hs3 := h3.size
  refine ⟨⟨encE_len, ?_⟩, ?_, by omega, hb2.mono (by omega), ?_⟩
  · rw [List.length_append, List.flatMap_append]
    simpa using h2
  · intro g' hg'
    simp only [Value.ownBlock, Option.some.injEq] at hg'
    subst hg'
    rcases h4 with h4 | h4
    · exact hvb _ h4
    · omega
  · intro k hk
    have hkl : k < wr.heap.size := by omega
    refine (h3.block k (by omega) ?_).trans ?_
    · intro e
      have e := e.symm
      have h5 := hown k e
      have h6 := hvb k e
      omega
    · exact Below.heap_alloc wr.drew _ k hkl

set_option maxHeartbeats 8000000 in
set_option maxRecDepth 10000 in
theorem rf_Cells (left nn : Nat) (hl : left < 4503599627370496) (hn : nn ≤ 13) (w : World) : Calls Try.prog 40 #[.int .u64 (left : Int), .int .i64 (nn : Int)] w fun e w' => (∃ v, e = .returned v ∧ OwnC w' w.heap.size v (ceOf left nn)) ∧ Below w.heap.size w w' := by
  have HLW : Hid (W64 left) := Lib.hid (by unfold W64; omega)
  have hz := zero110
  clear hl
  go_enter Try.func40, Try.ntmps40
  go_wp2_with fail
  have hb0 : Below w.heap.size w (w.alloc (.cells (tab 616 fun _ => 0) 122)) := (Below.refl _ _).alloc (Nat.le_refl _) _
  have hr0 : Row (w.alloc (.cells (tab 616 fun _ => 0) 122)) w.heap.size 122 (tab 616 (hvTo left 0)) := by
    rw [hvTo_zero]; exact Row.new _ _ _
  go_loopw [6] (fun i wr => ∃ (k : Nat), k ≤ 4 ∧ i = .int .i64 (k : Int) ∧ Below w.heap.size w wr ∧ Row wr w.heap.size 122 (tab 616 (hvTo left k))) (fun i _ => 4 - (intOf i).toNat)
  case atStart => exact ⟨0, by omega, rfl, hb0, hr0⟩
  case round =>
    clear hb0 hr0
    obtain ⟨k, hk, rfl, hB, hR⟩ := hrel
    have HB := Lib.hid hB
    have HR := Lib.hid hR
    clear hB hR
    by_cases hlt : k < 4
    · have hlI : (k : Int) < 4 := by omega
      have hd : decide ((k : Int) < 4) = true := by simp; omega
      go_wp2_with (first
        | (go_at_call 56; refine (rf_holdings left k HLW.out hlt _).mono ?_; rintro e w7 ⟨rfl, hb7⟩; have HR7 := Lib.hid (HR.out.later hb7); have HB7 := Lib.hid (HB.out.trans (hb7.mono HB.out.size)); clear hb7)
        | refine wpList_store_part rfl 121 (.tmp 26) (.tmp 25) rfl w.heap.size (k * 154) (tab 154 (holdV (scards left k))) rfl rfl _ _ HR7.out (by rw [size101, tab_size]) (by simp; omega) (tab_one _ _) ?_)
      refine ⟨⟨k + 1, by omega, by simp, below_setRow HB7.out (Nat.le_refl _) _, ?_⟩, by simp [intOf]; omega⟩
      have := setRow_heap w7 w.heap.size _ (putAt (tab 616 (hvTo left k)) (k * 154) (tab 154 (holdV (scards left k))).toList) _ _ HR7.out
      rw [putAt_tab _ _ _ _ _ (by omega), hvTo_succ] at this
      rw [putAt_tab _ _ _ _ _ (by omega), hvTo_succ]
      exact this
    · obtain rfl : k = 4 := by omega
      simp only [show ((4 : Nat) : Int) = 4 from rfl]
      have HV : Hid (∀ a b c, a + b + c ≤ nn → ∀ s, s ≤ 4 → Okf (cv (hvTo left 4) (lR nn a b c) s) s) := Lib.hid fun a b c h s hs => cv_ok left nn a b c hn h s hs
      have HG : Hid (∀ s len, s < 4 → len ≤ 13 → sumN 11 (suitRow (hvTo left 4) s len) ≤ 20160) := Lib.hid fun s len hs hl => suitRow_sum left s len hs hl
      have HCE : Hid (L1 (hvTo left 4) nn (nn + 1) = ceOf left nn) := Lib.hid rfl
      generalize hvTo left 4 = hv at *
      have hz82 := zero82
      clear hz
      go_wp2_with fail
      go_loopw [7, 8] (fun v i wr => ∃ (a : Nat), a ≤ nn + 1 ∧ i = .int .i64 (a : Int) ∧ OwnC wr (w.heap.size + 1) v (L1 hv nn a) ∧ Below w.heap.size w wr ∧ Row wr w.heap.size 122 (tab 616 hv)) (fun _ i _ => nn + 1 - (intOf i).toNat)
      case atStart => exact ⟨0, by omega, rfl, Owns.nil encE_len _ _, HB.out, HR.out⟩
      case round =>
        clear HB HR
        obtain ⟨a, ha, rfl, hO, hB, hR⟩ := hrel
        have HB := Lib.hid hB
        have HR := Lib.hid hR
        have HO := Lib.hid hO
        clear hB hR hO
        by_cases hla : a ≤ nn
        · have hda : decide ((a : Int) ≤ (nn : Int)) = true := by simp; omega
          have HLA : Hid ((L1 hv nn a).length ≤ 112504) := Lib.hid (Nat.le_trans (L1_len _ _ _ hn) (by omega))
          have HSA : Hid (L1 hv nn (a + 1) = L1 hv nn a ++ L2 hv nn a (nn - a + 1)) := Lib.hid rfl
          generalize L1 hv nn a = la at *
          go_wp2_with fail
          go_loopw [7, 9] (fun v i wr => ∃ (b : Nat), b ≤ nn - a + 1 ∧ i = .int .i64 (b : Int) ∧ OwnC wr (w.heap.size + 1) v (la ++ L2 hv nn a b) ∧ Below w.heap.size w wr ∧ Row wr w.heap.size 122 (tab 616 hv)) (fun _ i _ => nn - a + 1 - (intOf i).toNat)
          case atStart => exact ⟨0, by omega, rfl, by show OwnC _ _ _ (la ++ []); rw [List.append_nil]; exact HO.out, HB.out, HR.out⟩
          case round =>
            clear HB HR HO
            obtain ⟨b, hb, rfl, hO, hB, hR⟩ := hrel
            have HB := Lib.hid hB
            have HR := Lib.hid hR
            have HO := Lib.hid hO
            clear hB hR hO
            by_cases hlb : a + b ≤ nn
            · have hdb : decide ((a : Int) + (b : Int) ≤ (nn : Int)) = true := by simp; omega
              have HLB : Hid ((la ++ L2 hv nn a b).length ≤ 120540) := Lib.hid (by
                rw [List.length_append]
                have h1 := L2_len hv nn a b hn
                have h2 : b * 574 ≤ 8036 := by omega
                have h3 := HLA.out
                omega)
              have HSB : Hid (la ++ L2 hv nn a (b + 1) = (la ++ L2 hv nn a b) ++ L3 hv nn a b (nn - a - b + 1)) := Lib.hid (by rw [List.append_assoc]; rfl)
              generalize la ++ L2 hv nn a b = lb at *
              go_wp2_with fail
              go_loopw [7, 10] (fun v i wr => ∃ (c : Nat), c ≤ nn - a - b + 1 ∧ i = .int .i64 (c : Int) ∧ OwnC wr (w.heap.size + 1) v (lb ++ L3 hv nn a b c) ∧ Below w.heap.size w wr ∧ Row wr w.heap.size 122 (tab 616 hv)) (fun _ i _ => nn - a - b + 1 - (intOf i).toNat)
              case atStart => exact ⟨0, by omega, rfl, by show OwnC _ _ _ (lb ++ []); rw [List.append_nil]; exact HO.out, HB.out, HR.out⟩
              case round =>
                clear HB HR HO
                obtain ⟨c, hc, rfl, hO, hB, hR⟩ := hrel
                have HB := Lib.hid hB
                have HR := Lib.hid hR
                have HO := Lib.hid hO
                clear hB hR hO
                by_cases hlc : a + b + c ≤ nn
                · have hdc : decide ((a : Int) + (b : Int) + (c : Int) ≤ (nn : Int)) = true := by simp; omega
                  have HLC : Hid ((lb ++ L3 hv nn a b c).length ≤ 121200) := Lib.hid (by
                    rw [List.length_append]
                    have h1 := L3_len hv nn a b c
                    have h2 : c * 41 ≤ 574 := by omega
                    have h3 := HLB.out
                    omega)
                  have HSC : Hid (lb ++ L3 hv nn a b (c + 1) = (lb ++ L3 hv nn a b c) ++ flatC (lR nn a b c) (cv hv (lR nn a b c) 4) 41) := Lib.hid (by rw [List.append_assoc]; rfl)
                  have HVC := Lib.hid (HV.out a b c hlc)
                  have HLE : Hid (∀ s, s < 4 → lR nn a b c s ≤ 13) := Lib.hid fun s hs => lR_le nn a b c s hn hlc hs
                  obtain ⟨d, HD⟩ : ∃ d, Hid (nn - a - b - c = d) := ⟨_, Lib.hid rfl⟩
                  have hdd : (nn : Int) - (a : Int) - (b : Int) - (c : Int) = (d : Int) := by have := HD.out; omega
                  obtain ⟨lf, HLF⟩ : ∃ lf, Hid (lens4 a b c d = lf) := ⟨_, Lib.hid rfl⟩
                  have hlR : lR nn a b c = lf := by rw [← HLF.out, ← HD.out]
                  have HAR : Hid ((#[.int .i64 (a : Int), .int .i64 (b : Int), .int .i64 (c : Int), .int .i64 (d : Int)] : Array Value) = larr lf) := Lib.hid (by rw [← HLF.out]; rfl)
                  rw [hlR] at HSC HVC HLE
                  clear hlR
                  generalize lb ++ L3 hv nn a b c = lc at *
                  obtain ⟨W4, hW4⟩ : ∃ W4, W4 = wr := ⟨_, rfl⟩
                  subst hW4
                  go_wp2_with fail
                  rw [HAR.out, sp0_start]
                  have hb6 : Below W4.heap.size W4 ((W4.alloc (.cells (larr lf) 111)).alloc (.cells (tab 41 sp0) 124)) := ((Below.refl _ _).alloc (Nat.le_refl _) _).alloc (by simp) _
                  have hl6 : Row ((W4.alloc (.cells (larr lf) 111)).alloc (.cells (tab 41 sp0) 124)) W4.heap.size 111 (larr lf) := (Row.new _ _ _).alloc _
                  have hm6 : Row ((W4.alloc (.cells (larr lf) 111)).alloc (.cells (tab 41 sp0) 124)) (W4.heap.size + 1) 124 (tab 41 (cv hv lf 0)) := Row.new1 _ _ _ _
                  have hsz : ((W4.alloc (.cells (larr lf) 111)).alloc (.cells (tab 41 sp0) 124)).heap.size = W4.heap.size + 2 := by simp
                  generalize ((W4.alloc (.cells (larr lf) 111)).alloc (.cells (tab 41 sp0) 124)) = W6 at *
                  have hlt5 := HR.out.lt
                  go_loopw [13] (fun i wr => ∃ (s : Nat), s ≤ 4 ∧ i = .int .i64 (s : Int) ∧ Below W4.heap.size W4 wr ∧ Row wr W4.heap.size 111 (larr lf) ∧ Row wr (W4.heap.size + 1) 124 (tab 41 (cv hv lf s))) (fun i _ => 4 - (intOf i).toNat)
                  case atStart => exact ⟨0, by omega, rfl, hb6, hl6, hm6⟩
                  case round =>
                    clear hb6 hl6 hm6
                    obtain ⟨s, hs, rfl, hb, hl, hm⟩ := hrel
                    have HBs := Lib.hid hb
                    have HLs := Lib.hid hl
                    have HMs := Lib.hid hm
                    clear hb hl hm
                    by_cases hls : s < 4
                    · have hds : decide ((s : Int) < 4) = true := by simp; omega
                      have HOK := Lib.hid (HVC.out s (by omega))
                      have HSL := Lib.hid (HLE.out s hls)
                      have HSU : Hid (cv hv lf (s + 1) = jTo (cv hv lf s) (suitRow hv s (lf s)) 41) := Lib.hid rfl
                      have HSM := Lib.hid (HOK.out.small hls (HG.out s (lf s) hls HSL.out))
                      generalize cv hv lf s = f at *
                      go_wp2_with fail
                      have hn7 : Row (wr.alloc (.cells (tab 41 fun _ => 0) 124)) wr.heap.size 124 (tab 41 (jTo f (suitRow hv s (lf s)) 0)) := Row.new _ _ _
                      have hb7 : Below W4.heap.size W4 (wr.alloc (.cells (tab 41 fun _ => 0) 124)) := HBs.out.alloc HBs.out.size _
                      have hl7 : Row (wr.alloc (.cells (tab 41 fun _ => 0) 124)) W4.heap.size 111 (larr lf) := HLs.out.alloc _
                      have hm7 : Row (wr.alloc (.cells (tab 41 fun _ => 0) 124)) (W4.heap.size + 1) 124 (tab 41 f) := HMs.out.alloc _
                      have hns : W4.heap.size + 1 < wr.heap.size := HMs.out.lt
                      generalize wr.heap.size = bn at *
                      generalize wr.alloc (.cells (tab 41 fun _ => 0) 124) = W7 at *
                      go_loopw [15] (fun i wr => ∃ (p : Nat), p ≤ 41 ∧ i = .int .i64 (p : Int) ∧ Below W4.heap.size W4 wr ∧ Row wr W4.heap.size 111 (larr lf) ∧ Row wr (W4.heap.size + 1) 124 (tab 41 f) ∧ Row wr bn 124 (tab 41 (jTo f (suitRow hv s (lf s)) p))) (fun i _ => 41 - (intOf i).toNat)
                      case atStart => exact ⟨0, by omega, rfl, hb7, hl7, hm7, hn7⟩
                      case round =>
                        clear hn7 hb7 hl7 hm7 HBs HLs HMs
                        obtain ⟨p, hp, rfl, hb, hl, hm, hnx⟩ := hrel
                        have HBs := Lib.hid hb
                        have HLs := Lib.hid hl
                        have HMs := Lib.hid hm
                        have HNs := Lib.hid hnx
                        clear hb hl hm hnx
                        by_cases hlp : p < 41
                        · have hdp : decide ((p : Int) ≤ 40) = true := by simp; omega
                          go_wp2_with fail
                          go_loopw [16] (fun i wr => ∃ (q : Nat), q ≤ 11 ∧ i = .int .i64 (q : Int) ∧ Below W4.heap.size W4 wr ∧ Row wr W4.heap.size 111 (larr lf) ∧ Row wr (W4.heap.size + 1) 124 (tab 41 f) ∧ Row wr bn 124 (tab 41 (jAdd f (suitRow hv s (lf s)) p q (jTo f (suitRow hv s (lf s)) p)))) (fun i _ => 11 - (intOf i).toNat)
                          case atStart => exact ⟨0, by omega, rfl, HBs.out, HLs.out, HMs.out, HNs.out⟩
                          case round =>
                            clear HBs HLs HMs HNs
                            obtain ⟨q, hq, rfl, hb, hl, hm, hnx⟩ := hrel
                            have HBs := Lib.hid hb
                            have HLs := Lib.hid hl
                            have HMs := Lib.hid hm
                            have HNs := Lib.hid hnx
                            clear hb hl hm hnx
                            by_cases hcond : q ≤ 10 ∧ p + q ≤ 40
                            · obtain ⟨hq10, hpq⟩ := hcond
                              obtain ⟨r, hr⟩ : ∃ r, p + q = r := ⟨_, rfl⟩
                              have hle := jAdd_at (f := f) (g := suitRow hv s (lf s)) (N := 41) hlp (show q < 11 by omega) (show r < 41 by omega)
                              have hsm := HSM.out
                              have HJS : Hid (∀ W, Row W bn 124 (tab 41 (jAdd f (suitRow hv s (lf s)) p q (jTo f (suitRow hv s (lf s)) p))) → Row (W.setCell ⟨bn, r, none⟩ (.int .i64 ((jAdd f (suitRow hv s (lf s)) p q (jTo f (suitRow hv s (lf s)) p) r : Int) + ((f p * suitRow hv s (lf s) q : Nat) : Int)))) bn 124 (tab 41 (jAdd f (suitRow hv s (lf s)) p (q + 1) (jTo f (suitRow hv s (lf s)) p)))) := Lib.hid fun W hW => by
                                have := hW.set r (.int .i64 ((jAdd f (suitRow hv s (lf s)) p q (jTo f (suitRow hv s (lf s)) p) r + f p * suitRow hv s (lf s) q : Nat) : Int))
                                have e : jAdd f (suitRow hv s (lf s)) p (q + 1) (jTo f (suitRow hv s (lf s)) p) = bump (jAdd f (suitRow hv s (lf s)) p q (jTo f (suitRow hv s (lf s)) p)) r (f p * suitRow hv s (lf s) q) := by rw [← hr]; rfl
                                rw [tab_set, Int.natCast_add] at this
                                rw [e]
                                exact this
                              have c1 := (HNs.out.cell r).trans (tab_get 41 _ r (by omega))
                              have c2 := (HMs.out.cell p).trans (tab_get 41 f p hlp)
                              have c3 := (HLs.out.cell s).trans (larr_get lf s hls)
                              have hln := HSL.out
                              have c4 := ((HR.out.below hlt5 HBs.out).cell (s * 154 + lf s * 11 + q)).trans (suit_cell hv s (lf s) q hls (by omega) (by omega))
                              generalize jAdd f (suitRow hv s (lf s)) p q (jTo f (suitRow hv s (lf s)) p) r = va at *
                              generalize hgq : suitRow hv s (lf s) q = vg at *
                              obtain ⟨ln, HLN⟩ : ∃ ln, Hid (lf s = ln) := ⟨_, Lib.hid rfl⟩
                              rw [HLN.out] at c3 c4 hln
                              generalize f p = vf at *
                              have hmul : (vf : Int) * (vg : Int) = ((vf * vg : Nat) : Int) := by simp
                              generalize vf * vg = z at *
                              have hwz : IntKind.i64.wrap (z : Int) = (z : Int) := IntWalk.i64_in _ (by omega)
                              have hws : IntKind.i64.wrap ((va : Int) + (z : Int)) = (va : Int) + (z : Int) := IntWalk.i64_in _ (by omega)
                              have hri : (p : Int) + (q : Int) = (r : Int) := by omega
                              have hrw : IntKind.i64.wrap ((p : Int) + (q : Int)) = (r : Int) := by rw [hri]; exact IntWalk.i64_in _ (by omega)
                              have b1 : r < 41 := by omega
                              have b2 : (r : Int) < 41 := by omega
                              have b3 : (p : Int) < 41 := by omega
                              have b4 : (s : Int) < 4 := by omega
                              have b5 : ln < 14 := by omega
                              have b6 : (ln : Int) < 14 := by omega
                              have b7 : q < 11 := by omega
                              have b8 : (q : Int) < 11 := by omega
                              have b9 : decide ((q : Int) ≤ 10) = true := by simp; omega
                              have b10 : decide ((r : Int) ≤ 40) = true := by simp; omega
                              have r1 := fun dd os => cell_regrown c1 dd os
                              have r2 := fun dd os => cell_regrown c2 dd os
                              have r3 := fun dd os => cell_regrown c3 dd os
                              have r4 := fun dd os => cell_regrown c4 dd os
                              have HRR := Lib.hid hr
                              clear hle hsm hr hq10 hpq hln hgq
                              go_wp2_with fail
                              refine wp_region_below_tail 23 (by kernel_rfl) (by kernel_rfl) ?_
                              simp only [List.take_succ_cons, List.take_zero, List.drop_succ_cons, List.drop_zero]
                              repeat (first | go_big_quiet_step (fail) | quiet_step (fail))
                              refine wpQuiet_nil ?_
                              rintro _ ⟨pp, rfl⟩
                              have hb := below_regrown wr pp.d pp.os
                              have hN2 := HNs.out.later hb
                              have HL2 := Lib.hid ((HLs.out.later hb).other (i := r) (v := .int .i64 ((va : Int) + (z : Int))) (show W4.heap.size ≠ bn by omega))
                              have HM2 := Lib.hid ((HMs.out.later hb).other (i := r) (v := .int .i64 ((va : Int) + (z : Int))) (show W4.heap.size + 1 ≠ bn by omega))
                              have HB2 := Lib.hid ((HBs.out.trans (hb.mono HBs.out.size)).setCell (p := ⟨bn, r, none⟩) (show W4.heap.size ≤ bn by omega) (.int .i64 ((va : Int) + (z : Int))))
                              generalize grow (redrawn wr pp.d) pp.os = wa at *
                              have f3 := hN2.frozen r
                              have c5 : wa.cell? ⟨bn, r, none⟩ = some (.int .i64 (va : Int)) := by rw [hN2.cell, ← HNs.out.cell]; exact c1
                              have HN2 := Lib.hid (HJS.out wa hN2)
                              clear hb r1 r2 r3 r4 c1 c2 c3 c4 hN2 hri hrw
                              go_wp2_with fail
                              go_roundw
                              · exact ⟨q + 1, by omega, by simp, HB2.out, HL2.out, HM2.out, HN2.out⟩
                              · simp [intOf]; omega
                            · have HJE : Hid (tab 41 (jAdd f (suitRow hv s (lf s)) p q (jTo f (suitRow hv s (lf s)) p)) = tab 41 (jTo f (suitRow hv s (lf s)) (p + 1))) := Lib.hid (by
                                by_cases h11 : q = 11
                                · subst h11; rfl
                                · have := jAdd_cut f (suitRow hv s (lf s)) p q (jTo f (suitRow hv s (lf s)) p) (by omega) (11 - q)
                                  rw [← this, show q + (11 - q) = 11 by omega]
                                  rfl)
                              have HN2 : Hid (Row wr bn 124 (tab 41 (jTo f (suitRow hv s (lf s)) (p + 1)))) := Lib.hid (by rw [← HJE.out]; exact HNs.out)
                              by_cases hq10 : q ≤ 10
                              · have b9 : decide ((q : Int) ≤ 10) = true := by simp; omega
                                have b10 : decide ((p : Int) + (q : Int) ≤ 40) = false := by simp; omega
                                go_wp2_with fail
                                go_roundw
                                · exact ⟨p + 1, by omega, by simp, HBs.out, HLs.out, HMs.out, HN2.out⟩
                                · simp [intOf]; omega
                              · have b9 : decide ((q : Int) ≤ 10) = false := by simp; omega
                                go_wp2_with fail
                                go_roundw
                                · exact ⟨p + 1, by omega, by simp, HBs.out, HLs.out, HMs.out, HN2.out⟩
                                · simp [intOf]; omega
                        · obtain rfl : p = 41 := by omega
                          simp only [show ((41 : Nat) : Int) = 41 from rfl]
                          have HM3 := Lib.hid (setRow_heap wr (W4.heap.size + 1) _ (tab 41 (jTo f (suitRow hv s (lf s)) 41)) _ _ HMs.out)
                          have HL3 := Lib.hid (HLs.out.same (setRow_other wr (W4.heap.size + 1) W4.heap.size (tab 41 (jTo f (suitRow hv s (lf s)) 41)) (by omega)))
                          have HB3 := Lib.hid (below_setRow HBs.out (show W4.heap.size ≤ W4.heap.size + 1 by omega) (tab 41 (jTo f (suitRow hv s (lf s)) 41)))
                          go_wp2_with (first | refine wpList_load_row rfl 124 (.tmp 14) rfl bn rfl 124 (tab 41 (jTo f (suitRow hv s (lf s)) 41)) (0, 0) _ HNs.out under82 rfl (by rw [size82, tab_size]) ?_ | refine wpList_store_row rfl 124 (.tmp 12) (.tmp 101) rfl (W4.heap.size + 1) (tab 41 (jTo f (suitRow hv s (lf s)) 41)) rfl rfl 124 _ HMs.out (by rw [size82, tab_size]) (by rw [tab_size, tab_size]) (tab_one _ _) ?_)
                          exact ⟨⟨s + 1, by omega, by simp, HB3.out, HL3.out, by rw [HSU.out]; exact HM3.out⟩, by simp [intOf]; omega⟩
                    · obtain rfl : s = 4 := by omega
                      simp only [show ((4 : Nat) : Int) = 4 from rfl]
                      have HO4 := Lib.hid (HO.out.below HBs.out)
                      have HR4 := Lib.hid (HR.out.later HBs.out)
                      have HB4 := Lib.hid (HB.out.trans (HBs.out.mono HB.out.size))
                      have hns : W4.heap.size + 1 < wr.heap.size := HMs.out.lt
                      have HVB : Hid (∀ g, u7.ownBlock = some g → g < W4.heap.size) := Lib.hid fun g hg => (World.ownsRow.lt HO.out.2 g hg).2
                      clear HO HR HB HBs
                      have HFP := Lib.hid (HVC.out 4 (by omega))
                      have HFB : Hid (∀ p, p < 41 → cv hv lf 4 p ≤ 20160 ^ 4) := Lib.hid fun p hp => Nat.le_trans (le_sumN (cv hv lf 4) hp) HFP.out.sum
                      generalize cv hv lf 4 = F at *
                      generalize hbl : W4.heap.size = bl at *
                      go_wp2_with fail
                      go_loopw [7, 17] (fun v i wr => ∃ (p : Nat), p ≤ 41 ∧ i = .int .i64 (p : Int) ∧ OwnC wr (w.heap.size + 1) v (lc ++ flatC lf F p) ∧ (∀ g, v.ownBlock = some g → g ≠ bl ∧ g ≠ bl + 1) ∧ bl + 1 < wr.heap.size ∧ Below w.heap.size w wr ∧ Row wr w.heap.size 122 (tab 616 hv) ∧ Row wr bl 111 (larr lf) ∧ Row wr (bl + 1) 124 (tab 41 F)) (fun _ i _ => 41 - (intOf i).toNat)
                      case atStart => exact ⟨0, by omega, rfl, by show OwnC _ _ _ (lc ++ []); rw [List.append_nil]; exact HO4.out, fun g hg => by have := HVB.out g hg; omega, hns, HB4.out, HR4.out, HLs.out, HMs.out⟩
                      case round =>
                        clear HO4 HR4 HB4 HLs HMs HVB hns
                        obtain ⟨p, hp, rfl, hO, hvb, hns, hB, hR, hL, hM⟩ := hrel
                        have HO := Lib.hid hO
                        have HVB := Lib.hid hvb
                        have HB := Lib.hid hB
                        have HR := Lib.hid hR
                        have HL := Lib.hid hL
                        have HM := Lib.hid hM
                        have HNS := Lib.hid hns
                        clear hO hvb hB hR hL hM hns
                        by_cases hlp : p < 41
                        · have hdp : decide ((p : Int) ≤ 40) = true := by simp; omega
                          have hp41 : (p : Int) < 41 := by omega
                          have c1 := (HM.out.cell p).trans (tab_get 41 F p hlp)
                          have HFS := Lib.hid (flatC_succ lf F p)
                          have HLN : Hid ((lc ++ flatC lf F p).length ≤ 1000000) := Lib.hid (by
                            rw [List.length_append]
                            have h1 := flatC_len lf F p
                            have h2 := HLC.out
                            omega)
                          rcases Nat.eq_zero_or_pos (F p) with hf | hf
                          · rw [hf] at c1
                            rw [hf, if_neg (by omega), List.append_nil] at HFS
                            have HOS : Hid (OwnC wr (w.heap.size + 1) u7 (lc ++ flatC lf F (p + 1))) := Lib.hid (by rw [HFS.out]; exact HO.out)
                            clear hf
                            simp only [show ((0 : Nat) : Int) = 0 from rfl] at c1
                            go_wp2_with fail
                            exact ⟨⟨p + 1, by omega, by simp, HOS.out, HVB.out, HNS.out, HB.out, HR.out, HL.out, HM.out⟩, by simp [intOf]; omega⟩
                          · rw [if_pos hf] at HFS
                            have hfi : decide ((0 : Int) < (F p : Int)) = true := by simp; omega
                            have c2 := HL.out.cell 0
                            have c3 := HL.out.cell 1
                            have c4 := HL.out.cell 2
                            have c5 := HL.out.cell 3
                            simp only [List.getElem?_toArray, List.getElem?_cons_zero, List.getElem?_cons_succ] at c2 c3 c4 c5
                            have r1 := fun dd os => cell_regrown c1 dd os
                            have r2 := fun dd os => cell_regrown c2 dd os
                            have r3 := fun dd os => cell_regrown c3 dd os
                            have r4 := fun dd os => cell_regrown c4 dd os
                            have r5 := fun dd os => cell_regrown c5 dd os
                            have hfd : decide (0 < F p) = true := decide_eq_true hf
                            obtain ⟨i0, hi, hz0, hz1, hz2⟩ := info_parts info_ce
                            have HOWN := Lib.hid (World.ownsRow.drew HO.out.2)
                            have hbb : w.heap.size + 1 ≤ wr.heap.size := HR.out.lt
                            go_wp2_with fail
                            go_region_law (refine step_append_lies _ rfl (.tmp 110) (.tmp 117) 99 rfl (w.heap.size + 1) 126 i0 _ 6 48 Try.underlying99 hi hz0 hz1 hz2 rfl (by decide) u7 (lc ++ flatC lf F p).length ((lc ++ flatC lf F p).flatMap encE) (by simp [Act.eval]) (World.ownsRow.alloc HOWN.out _) ⟨wr.heap.size, 0, none⟩ 1 1 (encE ⟨p, lf, F p⟩) (by simp [Act.eval]) rfl (row_new_at' wr.drew (encE ⟨p, lf, F p⟩) _) (encE_one _) (by decide) (by unfold maxLen; have := HLN.out; omega) (by have := HLN.out; omega) (by show _ ≤ (wr.alloc _).heap.size; rw [World.size_alloc]; omega) _ rfl ?_; intro g cp w2 h2 h3 h4 h5; have HG2 := Lib.hid (grown_cell HO.out h2 h3 h4 HNS.out HVB.out hbb); clear h2 h3 h4 h5)
                            all_goals
                              obtain ⟨q1, q2, q3, q4, q5⟩ := HG2.out
                              have HO2 : Hid (OwnC w2 (w.heap.size + 1) (.slice (some ⟨g, 0, none⟩) ((lc ++ flatC lf F p).length + 1) cp) (lc ++ flatC lf F (p + 1))) := Lib.hid (by rw [HFS.out, ← List.append_assoc]; exact q1)
                              have Q2 := Lib.hid q2
                              have Q3 := Lib.hid q3
                              have Q4 := Lib.hid (HB.out.trans q4)
                              have Q5 := Lib.hid (HR.out.same (q5 _ (.inl rfl)))
                              have Q6 := Lib.hid (HL.out.same (q5 _ (.inr (.inl rfl))))
                              have Q7 := Lib.hid (HM.out.same (q5 _ (.inr (.inr rfl))))
                              clear q1 q2 q3 q4 q5 c1 c2 c3 c4 c5 r1 r2 r3 r4 r5 hi hz0 hz1 hz2 HG2
                              go_wp2_with fail
                              exact ⟨⟨p + 1, by omega, by simp, by have h := HO2.out; rw [List.length_append] at h; exact h, by have h := Q2.out; rw [List.length_append] at h; exact h, Q3.out, Q4.out, Q5.out, Q6.out, Q7.out⟩, by simp [intOf]; omega⟩
                        · obtain rfl : p = 41 := by omega
                          have HO5 : Hid (OwnC wr (w.heap.size + 1) u7 (lb ++ L3 hv nn a b (c + 1))) := Lib.hid (by rw [HSC.out]; exact HO.out)
                          simp only [show ((41 : Nat) : Int) = 41 from rfl]
                          go_wp2_with fail
                          exact ⟨⟨c + 1, by omega, by simp, HO5.out, HB.out, HR.out⟩, by simp [intOf]; omega⟩
                · have hc1 : nn - a - b + 1 = c := by omega
                  rw [hc1] at HSB
                  have HO5 : Hid (OwnC wr (w.heap.size + 1) u7 (la ++ L2 hv nn a (b + 1))) := Lib.hid (by rw [HSB.out]; exact HO.out)
                  have hdc : decide ((a : Int) + (b : Int) + (c : Int) ≤ (nn : Int)) = false := by simp; omega
                  clear hc1
                  go_wp2_with fail
                  exact ⟨⟨b + 1, by omega, by simp, HO5.out, HB.out, HR.out⟩, by simp [intOf]; omega⟩
            · have hb1 : nn - a + 1 = b := by omega
              rw [hb1] at HSA
              have HO5 : Hid (OwnC wr (w.heap.size + 1) u7 (L1 hv nn (a + 1))) := Lib.hid (by rw [HSA.out]; exact HO.out)
              have hdb : decide ((a : Int) + (b : Int) ≤ (nn : Int)) = false := by simp; omega
              clear hb1
              go_wp2_with fail
              exact ⟨⟨a + 1, by omega, by simp, HO5.out, HB.out, HR.out⟩, by simp [intOf]; omega⟩
        · have ha1 : nn + 1 = a := by omega
          rw [ha1] at HCE
          have HO5 : Hid (OwnC wr (w.heap.size + 1) u7 (ceOf left nn)) := Lib.hid (by rw [← HCE.out]; exact HO.out)
          have hda : decide ((a : Int) ≤ (nn : Int)) = false := by simp; omega
          clear ha1
          go_wp2_with fail
          exact bodyPost_ret (v := u7) (by simp [results, Try.results40, go_sem]) rfl ⟨⟨_, rfl, HO5.out.mono (by omega)⟩, HB.out⟩
end Go.Proofs.Ytikdkhiehfccpaa

/- Plain: counting over the reference's cells. -/
namespace Go.Proofs.Ytikdkhiehfccpaa
open Cnt

/-- the count over the reference's cells -/
def qC (q : (Nat → Nat) → Nat → Bool) (cs : List Ce) : Nat := sumCe (fun l p => if q l p then 1 else 0) cs
theorem qC_hands (left nn : Nat) (hn : nn ≤ 13) (q : (Nat → Nat) → Nat → Bool) : qC q (ceOf left nn) = cntF (deck left) nn q := ce_hands left nn hn _
theorem qC_one (q : (Nat → Nat) → Nat → Bool) (c : Ce) : qC q [c] = if q c.l c.p then c.m else 0 := by
  unfold qC sumCe
  by_cases h : q c.l c.p = true
  · simp [h]
  · simp [h]
theorem qC_append (q : (Nat → Nat) → Nat → Bool) (xs ys : List Ce) : qC q (xs ++ ys) = qC q xs + qC q ys := sumCe_append _ _ _
theorem qC_step (q : (Nat → Nat) → Nat → Bool) {cs : List Ce} {k : Nat} {c : Ce} (h : cs[k]? = some c) : qC q (cs.take (k + 1)) = qC q (cs.take k) + if q c.l c.p then c.m else 0 := by
  rw [List.take_add_one, h, qC_append]
  congr 1
  exact qC_one q c
theorem qC_take (q : (Nat → Nat) → Nat → Bool) (cs : List Ce) (k : Nat) : qC q (cs.take k) ≤ qC q cs := by
  have h : qC q cs = qC q (cs.take k) + qC q (cs.drop k) := by rw [← qC_append, List.take_append_drop]
  omega
theorem qC_bound (left nn : Nat) (hn : nn ≤ 13) (q : (Nat → Nat) → Nat → Bool) (k : Nat) : qC q ((ceOf left nn).take k) ≤ 4503599627370496 := by
  refine Nat.le_trans (qC_take q _ k) ?_
  rw [qC_hands _ _ hn]
  exact Nat.le_trans (cntF_le _ _ _) (Nat.le_trans (Nat.pow_le_pow_right (by decide) (deck_len left)) (by decide))
theorem mem_to {α : Type} {h : Nat → List α} {x : α} : ∀ {n}, x ∈ listTo h n → ∃ c, c < n ∧ x ∈ h c
  | 0, hx => by cases hx
  | n + 1, hx => by
    rcases List.mem_append.1 hx with h1 | h1
    · obtain ⟨c, h2, h3⟩ := mem_to h1
      exact ⟨c, by omega, h3⟩
    · exact ⟨n, by omega, h1⟩
theorem ce_small (left nn : Nat) (hn : nn ≤ 13) : ∀ c ∈ ceOf left nn, c.p < 41 ∧ ∀ s, s < 4 → c.l s < 14 := by
  intro x hx
  obtain ⟨a, ha, hx⟩ := mem_to hx
  obtain ⟨b, hb, hx⟩ := mem_to hx
  obtain ⟨c, hc, hx⟩ := mem_to hx
  obtain ⟨p, hp, hx⟩ := mem_to hx
  split at hx
  · rcases List.mem_singleton.1 hx with rfl
    exact ⟨hp, fun s hs => Nat.lt_succ_of_le (lR_le nn a b c s hn (by omega) hs)⟩
  · cases hx
theorem ce_len (left nn : Nat) (hn : nn ≤ 13) : (ceOf left nn).length ≤ 112504 := Nat.le_trans (L1_len _ _ _ hn) (by omega)
/-- what the cells so far put into a table by points -/
theorem spC_step (ra : List Rg) {cs : List Ce} {k : Nat} {c : Ce} (h : cs[k]? = some c) (hf : fitP ra c.l c.p = true) : tab 41 (bump (fun j => qC (fun l p => fitP ra l p && decide (p = j)) (cs.take k)) c.p c.m) = tab 41 (fun j => qC (fun l p => fitP ra l p && decide (p = j)) (cs.take (k + 1))) := tab_congr fun j _ => by
  unfold bump
  dsimp only
  rw [qC_step _ h, hf]
  by_cases e : j = c.p
  · subst e; simp
  · have e' : ¬ c.p = j := fun h => e h.symm
    simp [e, e']
theorem spC_miss (ra : List Rg) {cs : List Ce} {k : Nat} {c : Ce} (h : cs[k]? = some c) (hf : fitP ra c.l c.p = false) : tab 41 (fun j => qC (fun l p => fitP ra l p && decide (p = j)) (cs.take k)) = tab 41 (fun j => qC (fun l p => fitP ra l p && decide (p = j)) (cs.take (k + 1))) := tab_congr fun j _ => by
  rw [qC_step _ h, hf]; simp
theorem lnC_step (ra : List Rg) (s : Nat) {cs : List Ce} {k : Nat} {c : Ce} (h : cs[k]? = some c) (hf : fitP ra c.l c.p = true) : tab 14 (bump (fun j => qC (fun l p => fitP ra l p && decide (l s = j)) (cs.take k)) (c.l s) c.m) = tab 14 (fun j => qC (fun l p => fitP ra l p && decide (l s = j)) (cs.take (k + 1))) := tab_congr fun j _ => by
  unfold bump
  dsimp only
  rw [qC_step _ h, hf]
  by_cases e : j = c.l s
  · subst e; simp
  · have e' : ¬ c.l s = j := fun h => e h.symm
    simp [e, e']
theorem lnC_miss (ra : List Rg) (s : Nat) {cs : List Ce} {k : Nat} {c : Ce} (h : cs[k]? = some c) (hf : fitP ra c.l c.p = false) : tab 14 (fun j => qC (fun l p => fitP ra l p && decide (l s = j)) (cs.take k)) = tab 14 (fun j => qC (fun l p => fitP ra l p && decide (l s = j)) (cs.take (k + 1))) := tab_congr fun j _ => by
  rw [qC_step _ h, hf]; simp
end Go.Proofs.Ytikdkhiehfccpaa

/- What is read of a cell of the reference; a range of the reference in a block of its own. -/
namespace Go.Proofs.Ytikdkhiehfccpaa
open Go.RowKit Go.Sort Go.Shelf Cnt

theorem Rgs.regrown {w : World} {a : Option Addr} {len : Nat} {rs : List Rg} (h : Rgs w a len rs) (d : Nat) (os : _) : Rgs (grow (redrawn w d) os) a len rs := h.below (Nat.le_refl _) (below_regrown w d os)
/-- what is read of a cell -/
structure CeAt (w : World) (g k : Nat) (c : Ce) : Prop where
  p : w.cell? ⟨g, k * 6, none⟩ = some (.int .i64 (c.p : Int))
  l0 : w.cell? ⟨g, k * 6 + 1, none⟩ = some (.int .i64 (c.l 0 : Int))
  l1 : w.cell? ⟨g, k * 6 + 2, none⟩ = some (.int .i64 (c.l 1 : Int))
  l2 : w.cell? ⟨g, k * 6 + 3, none⟩ = some (.int .i64 (c.l 2 : Int))
  l3 : w.cell? ⟨g, k * 6 + 4, none⟩ = some (.int .i64 (c.l 3 : Int))
  m : w.cell? ⟨g, k * 6 + 5, none⟩ = some (.int .i64 (c.m : Int))
theorem ce_at {w : World} {base g n cap : Nat} {cs : List Ce} (h : OwnC w base (.slice (some ⟨g, 0, none⟩) n cap) cs) {k : Nat} {c : Ce} (hc : cs[k]? = some c) : CeAt w g k c :=
  ⟨h.cell k 0 (by decide) hc, h.cell k 1 (by decide) hc, h.cell k 2 (by decide) hc, h.cell k 3 (by decide) hc, h.cell k 4 (by decide) hc, h.cell k 5 (by decide) hc⟩
theorem rgs_newT (w : World) (r : Rg) (T : TypeId) : Rgs (w.alloc (.cells r.arr T)) (some ⟨w.heap.size, 0, none⟩) 1 [r] :=
  ⟨rfl, by decide, .inr ⟨w.heap.size, 0, rfl, by simp, fun i r' hr j hj => by
    obtain ⟨rfl, rfl⟩ : i = 0 ∧ r' = r := by
      rcases i with _ | i
      · simp at hr; exact ⟨rfl, hr.symm⟩
      · simp at hr
    simp only [World.cell?, World.alloc_heap_new]
    have := encR_get r' j hj
    simpa [encR] using this⟩⟩
end Go.Proofs.Ytikdkhiehfccpaa

/- Own slices of the reference's ranges; ranges compared. -/
namespace Go.Proofs.Ytikdkhiehfccpaa
open Go.RowKit Go.Sort Go.Shelf Cnt

/-- a slice of the reference's ranges, a call's own -/
abbrev OwnT (w : World) (base : Nat) (v : Value) (rs : List Rg) : Prop := Owns encR 10 53 w base v rs
theorem OwnT.rgs {w : World} {base : Nat} {v : Value} {rs : List Rg} (h : OwnT w base v rs) (hs : rs.length ≤ 100000) : ∃ a cap, v = .slice a rs.length cap ∧ Rgs w a rs.length rs ∧ rs.length ≤ cap ∧ (a = none → cap = 0) := by
  rcases h.2.2 with ⟨rfl, h0⟩ | ⟨g, cap, cur, rfl, hb, hg, hn, -, hsz, htk⟩
  · rw [h0]
    exact ⟨none, 0, rfl, ⟨h0, by omega, .inl rfl⟩, Nat.le_refl _, fun _ => rfl⟩
  · refine ⟨some ⟨g, 0, none⟩, cap, rfl, ⟨rfl, by omega, .inr ⟨g, 0, rfl, (Array.getElem?_eq_some_iff.1 hg).1, fun i r hr j hj => ?_⟩⟩, hn, fun e => by cases e⟩
    have h1 := flatR_get rs i j r hr hj
    have hi : i < rs.length := (List.getElem?_eq_some_iff.1 hr).1
    have e : World.cell? w ⟨g, 0 + i * 10 + j, none⟩ = cur[0 + i * 10 + j]? := by simp [World.cell?, hg]
    rw [e, Nat.zero_add]
    have htk' : cur.toList.take (rs.length * 10) = flatR rs := htk
    rw [← htk', List.getElem?_take_of_lt (by omega)] at h1
    simpa using h1
theorem info_rt : (Try.prog.info? 53).map (fun i => (i.zero, i.size, i.bytes)) = some (some (Rg.v ⟨0, 0, 0, 0, 0, 0, 0, 0, 0, 0⟩), 10, 80) := by kernel_rfl
theorem encR_one (r : Rg) : ∀ u ∈ encR r, u.oneCell' = true := by
  intro u hu
  simp only [encR, List.mem_cons, List.not_mem_nil, or_false] at hu
  rcases hu with rfl | rfl | rfl | rfl | rfl | rfl | rfl | rfl | rfl | rfl <;> rfl
/-- append(v, r) -/
theorem appT {w : World} {ops : Array Oper} {rest : List Oper} {o : Oper} {a : Act} {Q : Exit → Act → World → Prop} (hgd : o.guard = none) (s x : Operand)
    (ho : o.op = .call { callee := .builtin .append, args := #[s, x], argTypes := #[47, 47] })
    (base : Nat) (v : Value) (zs ys : List Rg) (hs : a.eval s = v) (hown : OwnT w base v zs) (ad : Addr) (m c : Nat) (hx : a.eval x = .slice (some ad) m c) (hy : Rgs w (some ad) m ys)
    (hbytes : zs.length + m ≤ 100000) (hbase : base ≤ w.heap.size)
    (h : ∀ v' w', OwnT w' base v' (zs ++ ys) → Below base w w' → w.grownBy w' v.ownBlock → (v'.ownBlock = v.ownBlock ∨ v'.ownBlock = some w.heap.size) → wpList Try.prog ops Q rest (a.put o.dst v') w') : wpList Try.prog ops Q (o :: rest) a w :=
  appO hgd s x 47 ho Try.underlying47 _ 80 info_rt (by decide) rfl (by decide) encR_one base v zs ys hs hown ad m c hx hy.length (rgs_row hy ad rfl) (by omega) hbase h
theorem eqItems_refl {P : Program} (d : Nat) (e : TypeId) (c : Nat) (xs : Array Value) : ∀ (is : List Nat), (∀ i ∈ is, ∀ w, ∃ v, Sem.run P (part e xs (i * c)) w = .ok v w ∧ Sem.run P (Op.equalIn d e v v) w = .ok true w) → ∀ w, Sem.run P (Op.eqItems d e c xs xs is) w = .ok true w
  | [], _, w => by simp [Op.eqItems]
  | i :: is, h, w => by
    obtain ⟨v, h1, h2⟩ := h i (List.mem_cons_self ..) w
    have ih := eqItems_refl d e c xs is (fun j hj => h j (List.mem_cons_of_mem _ hj)) w
    rw [Op.eqItems, Sem.run_bind, h1, Result.andThen_ok, Sem.run_bind, h1, Result.andThen_ok, Sem.run_bind, h2, Result.andThen_ok]
    simpa using ih
theorem eq_pr (d : Nat) (x y : Int) (w : World) : Sem.run Try.prog (Op.equalIn (d + 2) 50 (pr x y) (pr x y)) w = .ok true w := by
  obtain ⟨i, hi⟩ : ∃ i, Try.prog.info? 3 = some i := by
    have h : (Try.prog.info? 3).isSome = true := by kernel_rfl
    exact Option.isSome_iff_exists.1 h
  rw [run_equalIn_array (P := Try.prog) w (d + 1) _ _ under36 hi]
  have kc : Try.prog.cellsOf 3 = 1 := by kernel_rfl
  rw [kc]
  refine eqItems_refl _ _ _ _ _ (fun i hi w => ?_) w
  have he := fun z => run_equalIn_int (P := Try.prog) w d 3 .i64 .i64 z z Try.underlying3
  simp only [beq_self_eq_true] at he
  have hi2 : i < 2 := List.mem_range.1 hi
  rcases (show i = 0 ∨ i = 1 by omega) with rfl | rfl
  · exact ⟨.int .i64 x, by kernel_rfl, he x⟩
  · exact ⟨.int .i64 y, by kernel_rfl, he y⟩
abbrev Rg.sarr (r : Rg) : Array Value := #[.int .i64 r.a0, .int .i64 r.a1, .int .i64 r.b0, .int .i64 r.b1, .int .i64 r.c0, .int .i64 r.c1, .int .i64 r.d0, .int .i64 r.d1]
theorem eq_sarr (d : Nat) (r : Rg) (w : World) : Sem.run Try.prog (Op.equalIn (d + 3) 51 (.agg r.sarr) (.agg r.sarr)) w = .ok true w := by
  obtain ⟨i, hi⟩ : ∃ i, Try.prog.info? 50 = some i := by
    have h : (Try.prog.info? 50).isSome = true := by kernel_rfl
    exact Option.isSome_iff_exists.1 h
  rw [run_equalIn_array (P := Try.prog) w (d + 2) _ _ Try.underlying51 hi]
  have kc : Try.prog.cellsOf 50 = 2 := by kernel_rfl
  rw [kc]
  refine eqItems_refl _ _ _ _ _ (fun i hi w => ?_) w
  have hi2 : i < 4 := List.mem_range.1 hi
  rcases (show i = 0 ∨ i = 1 ∨ i = 2 ∨ i = 3 by omega) with rfl | rfl | rfl | rfl
  · exact ⟨pr r.a0 r.a1, by kernel_rfl, eq_pr d _ _ _⟩
  · exact ⟨pr r.b0 r.b1, by kernel_rfl, eq_pr d _ _ _⟩
  · exact ⟨pr r.c0 r.c1, by kernel_rfl, eq_pr d _ _ _⟩
  · exact ⟨pr r.d0 r.d1, by kernel_rfl, eq_pr d _ _ _⟩
theorem rg_eq (r : Rg) (w : World) : Sem.run Try.prog (Op.equalIn 10000 73 r.v r.v) w = .ok true w := by
  rw [run_equalIn_struct (P := Try.prog) w 9999 _ _ _ (by kernel_rfl) (by kernel_rfl)]
  have hU := Try.underlying73
  simp only [Program.fieldsOf, hU]
  have p0 : Sem.run Try.prog (part 50 r.arr 0) w = .ok (pr r.p0 r.p1) w := by kernel_rfl
  have p1 : Sem.run Try.prog (part 51 r.arr 2) w = .ok (.agg r.sarr) w := by kernel_rfl
  have e0 := eq_pr 9997 r.p0 r.p1 w
  have e1 := eq_sarr 9996 r w
  simp [Op.eqFields, p0, p1, e0, e1]
theorem rt_eq (r : Rg) (w : World) : Sem.run Try.prog (Op.equalIn 10000 53 r.v r.v) w = .ok true w := by
  rw [run_equalIn_struct (P := Try.prog) w 9999 _ _ _ (by kernel_rfl) (by kernel_rfl)]
  have hU := Try.underlying53
  simp only [Program.fieldsOf, hU]
  have p0 : Sem.run Try.prog (part 50 r.arr 0) w = .ok (pr r.p0 r.p1) w := by kernel_rfl
  have p1 : Sem.run Try.prog (part 51 r.arr 2) w = .ok (.agg r.sarr) w := by kernel_rfl
  have e0 := eq_pr 9997 r.p0 r.p1 w
  have e1 := eq_sarr 9996 r w
  simp [Op.eqFields, p0, p1, e0, e1]
end Go.Proofs.Ytikdkhiehfccpaa
