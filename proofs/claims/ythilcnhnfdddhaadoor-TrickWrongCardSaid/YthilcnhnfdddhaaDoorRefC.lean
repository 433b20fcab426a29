/- Contracts of finesseref11.Beats, Has and among over this seat's program. -/
import Derived.Test.YthilcnhnfdddhaaDoorRefB
import Derived.Test.YthilcnhnfdddhaaDoorOwn
namespace Go.Proofs.YthilcnhnfdddhaaDoor
open Go.RowKit Go.Sort Go.Shelf

theorem bestTo_append (val : Nat → Int) (zs ys : List Nat) : ∀ k, k ≤ zs.length → bestTo val (zs ++ ys) k = bestTo val zs k
  | 0, _ => rfl
  | k + 1, h => by
    have ih := bestTo_append val zs ys k (by omega)
    have e1 : (zs ++ ys).getD k 0 = zs.getD k 0 := by
      rw [List.getD_eq_getElem?_getD, List.getD_eq_getElem?_getD, List.getElem?_append_left (by omega)]
    have e2 : (zs ++ ys).getD (bestTo val zs k) 0 = zs.getD (bestTo val zs k) 0 := by
      have : bestTo val zs k < zs.length := by
        rcases Nat.eq_zero_or_pos k with h0 | h0
        · subst h0; show 0 < _; omega
        · have := bestTo_lt val zs k h0; omega
      rw [List.getD_eq_getElem?_getD, List.getD_eq_getElem?_getD, List.getElem?_append_left this]
    rw [bestTo, bestTo, ih, e1, e2]
/-- what finesseref11.Beats comes to is what trick.Beats comes to -/
theorem beats_next (t : Nat) (zs : List Nat) (c : Nat) (h : (winnerV t zs).2 = 0) (h4 : zs.length ≠ 4) :
    beatsV t zs c = if (winnerV t (zs ++ [c])).2 = 0 then (decide ((winnerV t (zs ++ [c])).1 = zs.length), 0) else (false, 110) := by
  obtain ⟨h1, h2, h3⟩ := winnerV_ok h
  have h2' := (rightB_iff zs).1 h2
  unfold beatsV
  rw [if_pos h, if_neg h4]
  have hr : rightB (zs ++ [c]) = true ↔ (c < 52 ∧ zs.contains c = false) := by
    rw [rightB_iff]
    simp only [List.length_append, List.length_cons, List.length_nil, List.mem_append, List.mem_cons, List.not_mem_nil, or_false, List.nodup_append, List.contains_eq_mem, decide_eq_false_iff_not]
    constructor
    · rintro ⟨_, _, h5, h6⟩
      exact ⟨h5 c (.inr rfl), fun hc => h6.2.2 c hc c rfl rfl⟩
    · rintro ⟨h5, h6⟩
      refine ⟨by omega, by omega, ?_, h2'.2.2.2, by simp, ?_⟩
      · rintro x (hx | hx)
        · exact h2'.2.2.1 x hx
        · subst hx; exact h5
      · rintro x hx y rfl rfl; exact h6 hx
  by_cases hc : c < 52 ∧ zs.contains c = false
  · rw [if_pos hc]
    have hw : winnerV t (zs ++ [c]) = (bestTo (fun x => (strength t (suit (zs.getD 0 0)) x : Int)) (zs ++ [c]) (zs.length + 1), 0) := by
      unfold winnerV
      rw [if_neg (by omega), if_pos (hr.2 hc)]
      have e : (zs ++ [c]).getD 0 0 = zs.getD 0 0 := by
        rw [List.getD_eq_getElem?_getD, List.getD_eq_getElem?_getD, List.getElem?_append_left (by omega)]
      rw [e, List.length_append]; rfl
    rw [hw, if_pos rfl, h3]
    have hb := bestTo_lt (fun x => (strength t (suit (zs.getD 0 0)) x : Int)) zs zs.length (by omega)
    generalize zs.getD 0 0 = c0 at *
    rw [bestTo, bestTo_append _ _ _ _ (Nat.le_refl _)]
    have e1 : (zs ++ [c]).getD zs.length 0 = c := by simp [List.getD_eq_getElem?_getD]
    have e2 : (zs ++ [c]).getD (bestTo (fun x => (strength t (suit c0) x : Int)) zs zs.length) 0 = zs.getD (bestTo (fun x => (strength t (suit c0) x : Int)) zs zs.length) 0 := by
      rw [List.getD_eq_getElem?_getD, List.getD_eq_getElem?_getD, List.getElem?_append_left hb]
    rw [e1, e2]
    dsimp only
    generalize bestTo (fun x => (strength t (suit c0) x : Int)) zs zs.length = m at *
    generalize zs.getD m 0 = cm at *
    congr 1
    split
    · rename_i hlt; have : strength t (suit c0) cm < strength t (suit c0) c := by omega
      simp [this]
    · rename_i hlt; have : ¬ strength t (suit c0) cm < strength t (suit c0) c := by omega
      have h5 : ¬ m = zs.length := by omega
      simp [this, h5]
  · rw [if_neg hc]
    have hw : (winnerV t (zs ++ [c])).2 = 110 := by
      unfold winnerV
      rw [if_neg (by omega), if_neg (fun h => hc (hr.1 h))]
    rw [if_neg (by omega)]

theorem ref_Beats (t c : Nat) (a : Option Addr) (len cap : Nat) (zs : List Nat) (w : World) (hz : Byt w a len zs) (hc : c < 256) :
    Calls Tryd.prog 43 #[.int .u8 (t : Int), .slice a len cap, .int .u8 (c : Int)] w fun e w' => e = .returned (.tuple #[.bool (beatsV t zs c).1, .int .i64 ((beatsV t zs c).2 : Int)]) ∧ Below w.heap.size w w' := by
  have hw := ref_Winner t a len cap zs w hz
  have hl := hz.length
  by_cases h2 : (winnerV t zs).2 = 0
  · have hr := rightB_length (winnerV_ok h2).2.1
    rw [hl] at hr
    have hbn := beats_next t zs c h2
    rw [hl] at hbn
    have he4 : len = 4 → beatsV t zs c = (false, 111) := by
      intro h; unfold beatsV; rw [if_pos h2, if_pos (by omega)]
    rw [h2] at hw
    generalize (winnerV t zs).1 = x at *
    have HW := Lib.hid hw
    clear hw h2
    by_cases h4 : len = 4
    · rw [he4 h4]
      subst h4
      clear hbn he4
      have hl' := Lib.hid hl
      clear hl
      go_enter Tryd.func43, Tryd.ntmps43
      go_wp2_with (go_at_call 41; refine HW.out.mono ?_; rintro e w' ⟨rfl, hb'⟩)
      go_ret2
      exact ⟨rfl, hb'⟩
    · rw [hbn h4]
      clear hbn he4
      have h4' : ((len : Int) == 4) = false := by simp; omega
      have hby : ∀ i, (zs ++ [c]).getD i 0 < 256 := by
        intro i
        rw [List.getD_eq_getElem?_getD, List.getElem?_append]
        split
        · have := hz.byte i; rwa [List.getD_eq_getElem?_getD] at this
        · rcases h : i - zs.length with _ | _ <;> simp; omega
      obtain ⟨b, off, rfl, hb, hcs⟩ := hz.at (by omega)
      clear hcs
      have hz4 : zs.length ≤ 4 := by omega
      have HL := Lib.hid hl
      clear hl
      have HBY := Lib.hid hby
      clear hby
      generalize hyv : winnerV t (zs ++ [c]) = y
      have HY := Lib.hid hyv
      clear hyv
      obtain ⟨y1, y2⟩ := y
      dsimp only
      go_enter Tryd.func43, Tryd.ntmps43
      go_wp2_with fail
      refine HW.out.mono ?_
      rintro e w1 ⟨rfl, hb1⟩
      have hB1 : Below w.heap.size w (w1.alloc (.cells #[] 5)) := hb1.alloc hb1.size _
      have hz1 := hz.below (Nat.le_refl _) hB1
      go_wp2_with (first
        | (at_builtin; refine app_any rfl (.tmp 24) (.tmp 25) rfl w1.heap.size _ [] zs rfl (OwnB.made0 _ _ (Nat.le_refl _)) _ _ _ rfl hz1 (fun h => by cases h) (by simp; omega) (by simp) ?_; intro v2 w2 hown2 hB2 _; simp only [List.nil_append] at hown2; have hsz2 : w1.heap.size ≤ w2.heap.size := by (have := hB2.size; simp only [World.size_alloc] at this; omega))
        | (at_builtin; refine app_any rfl (.tmp 26) (.tmp 28) rfl w1.heap.size _ zs [c] rfl (hown2.alloc _) _ _ _ rfl (byt_one w2 c hc) (fun h => by cases h) (by omega) (by simp only [World.size_alloc]; omega) ?_; intro v3 w3 hown3 hB3 _; have hsz3 := hB3.size; obtain ⟨a3, cap3, rfl, -, hz3⟩ := hown3.byt (by simp only [List.length_append, List.length_cons, List.length_nil]; omega) HBY.out))
      have hz3' : Byt w3 a3 (zs.length + 1) (zs ++ [c]) := by simpa using hz3
      have hB4 : Below w.heap.size w w3 := hb1.trans (((((Below.refl _ _).alloc (Nat.le_refl _) _).trans (hB2.mono (Nat.le_refl _))).trans (((Below.refl _ _).alloc hsz2 _).trans hB3)).mono hb1.size)
      have hw4 := ref_Winner t a3 (zs.length + 1) cap3 (zs ++ [c]) w3 hz3'
      clear hz3 hz3' hown3 hown2
      rw [HY.out] at hw4
      refine hw4.mono ?_
      rintro e w4 ⟨rfl, hb4⟩
      by_cases hy : y2 = 0
      · subst hy
        go_wp2_with fail
        go_ret2
        exact ⟨by simp; rw [Bool.eq_iff_iff]; simp; omega, hB4.trans (hb4.mono hB4.size)⟩
      · have hy' : ((y2 : Int) != 0) = true := by rw [bne_iff_ne]; omega
        go_wp2_with fail
        go_ret2
        exact ⟨by simp, hB4.trans (hb4.mono hB4.size)⟩
  · unfold beatsV
    rw [if_neg h2]
    generalize winnerV t zs = x at *
    obtain ⟨x, y⟩ := x
    dsimp only at *
    have h2' : ((y : Int) != 0) = true := by rw [bne_iff_ne]; omega
    have HW := Lib.hid hw
    clear hw hl
    go_enter Tryd.func43, Tryd.ntmps43
    go_wp2_with (go_at_call 41; refine HW.out.mono ?_; rintro e w' ⟨rfl, hb'⟩)
    go_ret2
    exact ⟨rfl, hb'⟩

theorem shr_mod (m c : Nat) : (((shr m c : Nat) : Int) % 2 == 1) = m.testBit c := by
  have e : ((shr m c : Nat) : Int) % 2 = ((bitAt m c : Nat) : Int) := by unfold shr bitAt; omega
  rw [e]; exact bitAt_one m c
theorem ref_Has (m c : Nat) (w : World) (hm : W64 m) :
    Calls Tryd.prog 52 #[.int .u64 (m : Int), .int .u8 (c : Int)] w fun e w' => e = .returned (.bool (m.testBit c)) ∧ w = w' := by
  rw [← shr_mod]
  have h0 : 0 ≤ ((shr m c : Nat) : Int) := by omega
  go_enter Tryd.func52, Tryd.ntmps52
  go_wp2
  go_ret
  exact ⟨rfl, rfl⟩

theorem ref_among (a : Option Addr) (len cap c : Nat) (zs : List Nat) (w : World) (hz : Byt w a len zs) :
    Calls Tryd.prog 53 #[.slice a len cap, .int .u8 (c : Int)] w fun e w' => e = .returned (.bool (zs.contains c)) ∧ w = w' := by
  have HL := Lib.hid hz.length
  have hsm := hz.small
  generalize hbb : zs.contains c = bb
  have HBB := Lib.hid hbb
  clear hbb
  go_enter Tryd.func53, Tryd.ntmps53
  go_wp2
  go_loop [5] (fun i => ∃ (k : Nat), k ≤ len ∧ i = .int .i64 k ∧ c ∉ zs.take k) (fun i => len - (intOf i).toNat)
  case atStart => exact ⟨0, Nat.zero_le _, rfl, by simp⟩
  case round =>
    obtain ⟨k, hk, rfl, hn⟩ := hrel
    have HN := Lib.hid hn
    clear hn
    by_cases hlt : k < len
    · obtain ⟨b, off, rfl, hb, hcs⟩ := hz.at (by omega)
      have hc := hcs k hlt
      have ht := take_snoc zs k (by rw [HL.out]; exact hlt)
      have hmem := getD_mem (zs := zs) (i := k) (by rw [HL.out]; exact hlt)
      clear hcs
      generalize zs.getD k 0 = x at *
      have HT := Lib.hid ht
      have HM := Lib.hid hmem
      clear ht hmem
      by_cases hx : x = c
      · have hx' : ((x : Int) == (c : Int)) = true := by simp; omega
        have HX := Lib.hid hx
        clear hx
        have e : zs.contains c = true := List.contains_iff_mem.2 (by rw [← HX.out]; exact HM.out)
        have HE := Lib.hid e
        clear e
        go_wp2
        go_ret
        exact ⟨by rw [← HBB.out, HE.out]; rfl, rfl⟩
      · have hx' : ((x : Int) == (c : Int)) = false := by simp; omega
        go_wp2
        go_round
        case rel => exact ⟨k + 1, by omega, by go_num, by rw [HT.out]; have := HN.out; simp [this, Ne.symm hx]⟩
        case measure => simp [intOf]; omega
    · have e : zs.contains c = false := by
        have := HN.out
        rw [List.take_of_length_le (by rw [HL.out]; omega)] at this
        simp [this]
      have HE := Lib.hid e
      clear e
      go_wp2
      go_ret
      exact ⟨by rw [← HBB.out, HE.out]; rfl, rfl⟩
end Go.Proofs.YthilcnhnfdddhaaDoor
