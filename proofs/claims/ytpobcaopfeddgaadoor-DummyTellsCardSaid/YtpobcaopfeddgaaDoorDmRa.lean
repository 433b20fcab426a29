/- Plain: the table turned. -/
import Derived.Test.YtpobcaopfeddgaaDoorDmPm
import Derived.Test.YtpobcaopfeddgaaDoorMDpe
namespace Go.Proofs.YtpobcaopfeddgaaDoor
open Go.RowKit Go.Sort Go.Shelf

/-- all seats passed on by k -/
structure Rot (k : Nat) (t t' : Tb) : Prop where
  ld : t'.ld = (t.ld + k) % 4
  cs : t'.cs = t.cs
  h : ∀ s, s < 4 → t'.h ((s + k) % 4) = t.h s
variable {k : Nat} {t t' : Tb}
theorem Rot.turn (H : Rot k t t') : t'.turn = (t.turn + k) % 4 := by
  unfold Tb.turn; rw [H.ld, H.cs]; omega
theorem Rot.hand (H : Rot k t t') : t'.h t'.turn = t.h t.turn := by rw [H.turn]; exact H.h _ t.turn_lt
theorem Rot.legal (H : Rot k t t') (c : Nat) : t'.legal c = t.legal c := by unfold Tb.legal; rw [H.hand, H.cs]
theorem Rot.cards (H : Rot k t t') : t'.cards = t.cards := by
  unfold Tb.cards
  exact List.filter_congr fun c _ => H.legal c
theorem Rot.push (H : Rot k t t') (c : Nat) : Rot k (t.push c) (t'.push c) := by
  refine ⟨H.ld, by show t'.cs ++ [c] = t.cs ++ [c]; rw [H.cs], fun s hs => ?_⟩
  show (if (s + k) % 4 = t'.turn then landn (t'.h ((s + k) % 4)) (shl1 c) else t'.h ((s + k) % 4)) = (if s = t.turn then landn (t.h s) (shl1 c) else t.h s)
  rw [H.h s hs, H.turn]
  have ht := t.turn_lt
  by_cases e : s = t.turn
  · rw [if_pos e, if_pos (by rw [e])]
  · rw [if_neg e, if_neg (by omega)]
theorem Rot.win (H : Rot k t t') (tr : Nat) : t'.win tr = (t.win tr + k) % 4 := by
  unfold Tb.win; rw [H.ld, H.cs]; omega
theorem Rot.settle (H : Rot k t t') (tr : Nat) : Rot k (t.settle tr).1 (t'.settle tr).1 ∧ (t'.settle tr).2 = if t.cs.length < 4 then 0 else 1 - (t.win tr + k) % 4 % 2 := by
  unfold Tb.settle
  rw [H.cs, H.win tr]
  by_cases e : t.cs.length < 4
  · rw [if_pos e, if_pos e, if_pos e]; exact ⟨H, rfl⟩
  · rw [if_neg e, if_neg e, if_neg e]
    exact ⟨⟨rfl, rfl, H.h⟩, rfl⟩
theorem bestL_compl {ns : Bool} {q : Nat} {l : List Nat} (h0 : l ≠ []) (hq : ∀ x ∈ l, x ≤ q) : bestL (!ns) (l.map fun x => q - x) = q - bestL ns l := by
  obtain ⟨h1, h2⟩ := bestL_spec ns h0
  refine bestL_eq (List.mem_map.2 ⟨_, h1, rfl⟩) fun x hx => ?_
  obtain ⟨y, hy, rfl⟩ := List.mem_map.1 hx
  have h3 := h2 y hy
  have h4 := hq y hy
  unfold better at h3 ⊢
  cases ns
  · simp only [Bool.false_eq_true, if_false, Bool.not_false, if_true] at h3 ⊢; omega
  · simp only [if_true, Bool.not_true, Bool.false_eq_true, if_false] at h3 ⊢; omega
theorem put_eq (t : Tb) (tr c : Nat) : t.put tr c = (t.push c).settle tr := rfl
theorem push_len (t : Tb) (c : Nat) : (t.push c).cs.length = t.cs.length + 1 := by show (t.cs ++ [c]).length = _; simp
theorem worth_eq (tr n : Nat) (t : Tb) (c : Nat) : worth tr n t c = (t.put tr c).2 + val tr n (t.put tr c).1 := rfl
/-- passed on by two seats (or none): the same; by one (or three): the sides exchange their tricks -/
theorem rot_val (tr : Nat) : ∀ (n q : Nat) (t t' : Tb), Rot k t t' → TbOk t → Evn q t → n + t.cs.length = 4 * q → val tr n t' = if k % 2 = 0 then val tr n t else q - val tr n t
  | 0, q, t, t', _, hk, _, hn => by
    have := hk.pk.2
    obtain rfl : q = 0 := by omega
    show 0 = if k % 2 = 0 then 0 else 0 - 0
    split <;> rfl
  | n + 1, q, t, t', H, hk, he, hn => by
    have hq : 0 < q := by omega
    have hc0 := cards_some hk he hq
    have e1 : val tr (n + 1) t = bestL t.ns (t.cards.map (worth tr n t)) := rfl
    have e2 : val tr (n + 1) t' = bestL t'.ns (t'.cards.map (worth tr n t')) := rfl
    have hl := hk.pk.2
    have step : ∀ c ∈ t.cards, worth tr n t' c = if k % 2 = 0 then worth tr n t c else q - worth tr n t c := fun c hc => by
      obtain ⟨hc52, hb⟩ := legal_bit hc
      obtain ⟨r1, r2⟩ := (H.push c).settle tr
      have hok := ok_put hk (tr := tr) hc52
      rw [worth_eq, worth_eq, put_eq t' tr c, r2]
      have hs : (t.put tr c).2 = if (t.push c).cs.length < 4 then 0 else 1 - (t.push c).win tr % 2 := by
        rw [put_eq]
        unfold Tb.settle
        split <;> rfl
      rw [push_len] at hs ⊢
      rcases he.put hl tr (by omega) hb with ⟨h1, h2, h3⟩ | ⟨h1, h2, h3⟩
      · have ih := rot_val tr n q _ _ r1 hok h2 (by rw [put_eq] at h3; rw [h3]; omega)
        have hv := val_le tr n q _ (by rw [h3]; omega) h2 (by rw [h3]; omega)
        rw [if_pos (show t.cs.length + 1 < 4 by omega)] at hs ⊢
        rw [hs, ih, put_eq]
        split <;> omega
      · have ih := rot_val tr n (q - 1) _ _ r1 hok h2 (by rw [put_eq] at h3; rw [h3]; simp; omega)
        have hv := val_le tr n (q - 1) _ (by rw [h3]; simp) h2 (by rw [h3]; simp; omega)
        rw [if_neg (show ¬ t.cs.length + 1 < 4 by omega)] at hs ⊢
        rw [hs, ih, put_eq]
        rw [put_eq] at hv
        split <;> omega
    have hns : t'.ns = if k % 2 = 0 then t.ns else !t.ns := by
      unfold Tb.ns
      rw [H.turn]
      have := t.turn_lt
      split
      · rw [Bool.eq_iff_iff, beq_iff_eq, beq_iff_eq]; omega
      · rw [Bool.eq_iff_iff, beq_iff_eq, Bool.not_eq_true', beq_eq_false_iff_ne]; omega
    rw [e1, e2, H.cards, hns]
    by_cases hk2 : k % 2 = 0
    · rw [if_pos hk2, if_pos hk2]
      congr 1
      refine List.map_congr_left fun c hc => ?_
      rw [step c hc, if_pos hk2]
    · rw [if_neg hk2, if_neg hk2, ← bestL_compl (by simpa using hc0) (fun x hx => ?_)]
      · congr 1
        rw [List.map_map]
        refine List.map_congr_left fun c hc => ?_
        rw [step c hc, if_neg hk2]; rfl
      · obtain ⟨c, hc, rfl⟩ := List.mem_map.1 hx
        obtain ⟨hc52, hb⟩ := legal_bit hc
        exact worth_le tr n q hl he (by omega) (by omega) hb
end Go.Proofs.YtpobcaopfeddgaaDoor
